/-
  WHAT A SCRIPT READS AND WRITES, on plain lists; the laws by places that the walk of 'Apply' and the law's own loops want. No Go in sight but 'vld' (what Op.Valid answers).
-/
import Derived.Test.YmwhbcSmall
namespace Go.Proofs.Ymwhbc

/-- The bytes that a script reads: Old of every op that is no Insert. -/
def reads (S : List (Int × Int × Int)) : List Int := (S.filter fun p => p.1 != 43).map fun p => p.2.1
/-- The bytes that a script writes: New of every op that is no Delete. -/
def outs (S : List (Int × Int × Int)) : List Int := (S.filter fun p => p.1 != 45).map fun p => p.2.2
/-- Every op is valid. -/
def allV (S : List (Int × Int × Int)) : Bool := S.all fun p => vld p.1 p.2.1 p.2.2
/-- What 'Apply' answers. -/
def res (S : List (Int × Int × Int)) (A : List Int) : Option (List Int) := if allV S = true ∧ reads S = A then some (outs S) else none

theorem reads_append (S T : List (Int × Int × Int)) : reads (S ++ T) = reads S ++ reads T := by simp [reads]
theorem outs_append (S T : List (Int × Int × Int)) : outs (S ++ T) = outs S ++ outs T := by simp [outs]
theorem allV_append (S T : List (Int × Int × Int)) : allV (S ++ T) = (allV S && allV T) := by simp [allV]

theorem take_snoc (S : List (Int × Int × Int)) (i : Nat) (h : i < S.length) : S.take (i + 1) = S.take i ++ [S[i]] := List.take_succ_eq_append_getElem h
theorem split_at (S : List (Int × Int × Int)) (i : Nat) (h : i < S.length) : S = S.take i ++ S[i] :: S.drop (i + 1) := by
  rw [← List.drop_eq_getElem_cons h, List.take_append_drop]

section
variable {S : List (Int × Int × Int)} {i : Nat} {k o n : Int}

theorem reads_no (h : i < S.length) (hp : S[i] = (43, o, n)) : reads (S.take (i + 1)) = reads (S.take i) := by
  rw [take_snoc S i h, reads_append, hp]; simp [reads]
theorem reads_yes (h : i < S.length) (hp : S[i] = (k, o, n)) (hk : ¬ k = 43) : reads (S.take (i + 1)) = reads (S.take i) ++ [o] := by
  rw [take_snoc S i h, reads_append, hp]; simp [reads, hk]
theorem outs_no (h : i < S.length) (hp : S[i] = (45, o, n)) : outs (S.take (i + 1)) = outs (S.take i) := by
  rw [take_snoc S i h, outs_append, hp]; simp [outs]
theorem outs_yes (h : i < S.length) (hp : S[i] = (k, o, n)) (hk : ¬ k = 45) : outs (S.take (i + 1)) = outs (S.take i) ++ [n] := by
  rw [take_snoc S i h, outs_append, hp]; simp [outs, hk]
theorem allV_step (h : i < S.length) (hp : S[i] = (k, o, n)) : allV (S.take (i + 1)) = (allV (S.take i) && vld k o n) := by
  rw [take_snoc S i h, allV_append, hp]; simp [allV]

/-- i ops have been run, p bytes of A have been read, all was well. -/
def Run (S : List (Int × Int × Int)) (A : List Int) (i p : Nat) : Prop := allV (S.take i) = true ∧ reads (S.take i) = A.take p ∧ p ≤ A.length

variable {A : List Int} {p : Nat}

theorem Run.start (S : List (Int × Int × Int)) (A : List Int) : Run S A 0 0 := ⟨by simp [allV], by simp [reads], Nat.zero_le _⟩

theorem Run.bad (h : i < S.length) (hp : S[i] = (k, o, n)) (hv : vld k o n = false) : res S A = none := by
  have : allV S = false := by
    rw [split_at S i h, allV_append, hp]
    simp [allV, hv]
  simp [res, this]

theorem reads_at (r : Run S A i p) (h : i < S.length) (hp : S[i] = (k, o, n)) (hk : ¬ k = 43) (e : reads S = A) : p < A.length ∧ A.getD p 0 = o := by
  have e1 : A.take p ++ o :: reads (S.drop (i + 1)) = A := by
    have e2 : reads S = reads (S.take i) ++ reads (S[i] :: S.drop (i + 1)) := (congrArg reads (split_at S i h)).trans (reads_append _ _)
    have e3 : reads (S[i] :: S.drop (i + 1)) = o :: reads (S.drop (i + 1)) := by rw [hp]; simp [reads, hk]
    rw [← r.2.1, ← e3, ← e2]
    exact e
  have hl : (A.take p).length = p := by rw [List.length_take]; have := r.2.2; omega
  constructor
  · have := congrArg List.length e1
    simp only [List.length_append, List.length_cons, hl] at this
    omega
  · rw [← e1, List.getD_eq_getElem?_getD, List.getElem?_append_right (by omega), hl]
    simp

theorem Run.short (r : Run S A i p) (h : i < S.length) (hp : S[i] = (k, o, n)) (hk : ¬ k = 43) (hs : p = A.length) : res S A = none := by
  unfold res
  rw [if_neg]
  rintro ⟨_, e⟩
  have := (reads_at r h hp hk e).1
  omega

theorem Run.differs (r : Run S A i p) (h : i < S.length) (hp : S[i] = (k, o, n)) (hk : ¬ k = 43) (hs : ¬ A.getD p 0 = o) : res S A = none := by
  unfold res
  rw [if_neg]
  rintro ⟨_, e⟩
  exact hs (reads_at r h hp hk e).2

theorem Run.insert (r : Run S A i p) (h : i < S.length) (hp : S[i] = (43, o, n)) (hv : vld 43 o n = true) : Run S A (i + 1) p :=
  ⟨by rw [allV_step h hp, r.1, hv]; rfl, by rw [reads_no h hp]; exact r.2.1, r.2.2⟩

theorem Run.read (r : Run S A i p) (h : i < S.length) (hp : S[i] = (k, o, n)) (hk : ¬ k = 43) (hv : vld k o n = true) (hpl : p < A.length) (ho : A.getD p 0 = o) : Run S A (i + 1) (p + 1) :=
  ⟨by rw [allV_step h hp, r.1, hv]; rfl, by
    rw [reads_yes h hp hk, r.2.1, List.take_succ_eq_append_getElem hpl, ← ho]
    simp [List.getD, hpl], hpl⟩

theorem Run.done (r : Run S A i p) (h : i = S.length) (hp : p = A.length) : res S A = some (outs S) := by
  obtain ⟨r1, r2, _⟩ := r
  rw [h, List.take_length] at r1 r2
  rw [hp, List.take_length] at r2
  simp [res, r1, r2]

theorem Run.left (r : Run S A i p) (h : i = S.length) (hp : ¬ p = A.length) : res S A = none := by
  obtain ⟨r1, r2, r3⟩ := r
  rw [h, List.take_length] at r2
  unfold res
  rw [if_neg]
  rintro ⟨_, e⟩
  have := congrArg List.length (e.symm.trans r2)
  rw [List.length_take] at this
  omega
end
end Go.Proofs.Ymwhbc

/-
  THE PLAIN PARSER of the printed form of a script, and its laws by places. No Go in sight.
-/
namespace Go.Proofs.Ymwhbc

/-- The printed form of a script, parsed: a list of ops (kind, old, new), or none where the text is not the printed form of a script. -/
def parse : List Int → Option (List (Int × Int × Int))
  | [] => some []
  | [_] => none
  | k :: x :: t =>
    if k = 61 then (parse t).map ((61, x, x) :: ·)
    else if k = 43 then (parse t).map ((43, 0, x) :: ·)
    else if k = 45 then (parse t).map ((45, x, 0) :: ·)
    else if k = 126 then
      match t with
      | [] => none
      | y :: t' => if x = y then none else (parse t').map ((126, x, y) :: ·)
    else none

theorem parse_61 (x : Int) (t : List Int) : parse (61 :: x :: t) = (parse t).map ((61, x, x) :: ·) := by cases t <;> simp [parse]
theorem parse_43 (x : Int) (t : List Int) : parse (43 :: x :: t) = (parse t).map ((43, 0, x) :: ·) := by cases t <;> simp [parse]
theorem parse_45 (x : Int) (t : List Int) : parse (45 :: x :: t) = (parse t).map ((45, x, 0) :: ·) := by cases t <;> simp [parse]
theorem parse_126_cut (x : Int) : parse [126, x] = none := by
  rw [parse, if_neg (by decide), if_neg (by decide), if_neg (by decide), if_pos rfl]
theorem parse_126_same (x : Int) (t : List Int) : parse (126 :: x :: x :: t) = none := by
  rw [parse, if_neg (by decide), if_neg (by decide), if_neg (by decide), if_pos rfl, if_pos rfl]
theorem parse_126 (x y : Int) (t : List Int) (h : ¬ x = y) : parse (126 :: x :: y :: t) = (parse t).map ((126, x, y) :: ·) := by
  rw [parse, if_neg (by decide), if_neg (by decide), if_neg (by decide), if_pos rfl, if_neg h]
theorem parse_one (k : Int) : parse [k] = none := by rw [parse]
theorem parse_other (k : Int) (t : List Int) (h1 : ¬ k = 61) (h2 : ¬ k = 43) (h3 : ¬ k = 45) (h4 : ¬ k = 126) : parse (k :: t) = none := by
  match t with
  | [] => rw [parse]
  | [x] => rw [parse, if_neg h1, if_neg h2, if_neg h3, if_neg h4]
  | x :: y :: t => rw [parse, if_neg h1, if_neg h2, if_neg h3, if_neg h4]

/-- 'i' places have been read, and gave the ops 'acc'. -/
def At (zs : List Int) (i : Nat) (acc : List (Int × Int × Int)) : Prop := parse zs = (parse (zs.drop i)).map (acc ++ ·)

theorem At.start (zs : List Int) : At zs 0 [] := by
  unfold At
  simp

theorem At.done {zs : List Int} {i : Nat} {acc : List (Int × Int × Int)} (h : At zs i acc) (hi : zs.length ≤ i) : parse zs = some acc := by
  unfold At at h
  rw [h, List.drop_eq_nil_of_le hi]
  simp [parse]

theorem drop1 (zs : List Int) (i : Nat) (h : i < zs.length) : zs.drop i = zs.getD i 0 :: zs.drop (i + 1) := by
  rw [List.drop_eq_getElem_cons h]
  simp [List.getD, h]

theorem drop2 (zs : List Int) (i : Nat) (h : i + 1 < zs.length) : zs.drop i = zs.getD i 0 :: zs.getD (i + 1) 0 :: zs.drop (i + 2) := by
  rw [drop1 zs i (by omega), drop1 zs (i + 1) h]

theorem drop3 (zs : List Int) (i : Nat) (h : i + 2 < zs.length) : zs.drop i = zs.getD i 0 :: zs.getD (i + 1) 0 :: zs.getD (i + 2) 0 :: zs.drop (i + 3) := by
  rw [drop2 zs i (by omega), drop1 zs (i + 2) h]

theorem map_step (o : Option (List (Int × Int × Int))) (acc : List (Int × Int × Int)) (p : Int × Int × Int) : (o.map (p :: ·)).map (acc ++ ·) = o.map ((acc ++ [p]) ++ ·) := by
  cases o with
  | none => rfl
  | some l => simp

theorem At.s61 {zs : List Int} {i : Nat} {acc : List (Int × Int × Int)} {x : Int} (h : At zs i acc) (hi : i + 1 < zs.length) (hk : zs.getD i 0 = 61) (hx : zs.getD (i + 1) 0 = x) : At zs (i + 2) (acc ++ [(61, x, x)]) := by
  unfold At at h ⊢
  rw [h, drop2 zs i hi, hk, hx, parse_61, map_step]

theorem At.s43 {zs : List Int} {i : Nat} {acc : List (Int × Int × Int)} {x : Int} (h : At zs i acc) (hi : i + 1 < zs.length) (hk : zs.getD i 0 = 43) (hx : zs.getD (i + 1) 0 = x) : At zs (i + 2) (acc ++ [(43, 0, x)]) := by
  unfold At at h ⊢
  rw [h, drop2 zs i hi, hk, hx, parse_43, map_step]

theorem At.s45 {zs : List Int} {i : Nat} {acc : List (Int × Int × Int)} {x : Int} (h : At zs i acc) (hi : i + 1 < zs.length) (hk : zs.getD i 0 = 45) (hx : zs.getD (i + 1) 0 = x) : At zs (i + 2) (acc ++ [(45, x, 0)]) := by
  unfold At at h ⊢
  rw [h, drop2 zs i hi, hk, hx, parse_45, map_step]

theorem At.s126 {zs : List Int} {i : Nat} {acc : List (Int × Int × Int)} {x y : Int} (h : At zs i acc) (hi : i + 2 < zs.length) (hk : zs.getD i 0 = 126) (hx : zs.getD (i + 1) 0 = x) (hy : zs.getD (i + 2) 0 = y) (hne : ¬ x = y) : At zs (i + 3) (acc ++ [(126, x, y)]) := by
  unfold At at h ⊢
  rw [h, drop3 zs i hi, hk, hx, hy, parse_126 _ _ _ hne, map_step]

/-- Every place at which the text is refused. -/
theorem At.short {zs : List Int} {i : Nat} {acc : List (Int × Int × Int)} (h : At zs i acc) (hi : i + 1 = zs.length) : parse zs = none := by
  unfold At at h
  rw [h, drop1 zs i (by omega), List.drop_eq_nil_of_le (by omega), parse_one]
  rfl

theorem At.short3 {zs : List Int} {i : Nat} {acc : List (Int × Int × Int)} (h : At zs i acc) (hl : i < zs.length) (hk : zs.getD i 0 = 126) (hi : zs.length ≤ i + 2) : parse zs = none := by
  by_cases h1 : i + 1 = zs.length
  · exact h.short h1
  · unfold At at h
    rw [h, drop2 zs i (by omega), List.drop_eq_nil_of_le hi, hk, parse_126_cut]
    rfl

theorem At.same {zs : List Int} {i : Nat} {acc : List (Int × Int × Int)} (h : At zs i acc) (hi : i + 2 < zs.length) (hk : zs.getD i 0 = 126) (hs : zs.getD (i + 1) 0 = zs.getD (i + 2) 0) : parse zs = none := by
  unfold At at h
  rw [h, drop3 zs i hi, hk, hs, parse_126_same]
  rfl

theorem At.other {zs : List Int} {i : Nat} {acc : List (Int × Int × Int)} (h : At zs i acc) (hi : i < zs.length) (h1 : ¬ zs.getD i 0 = 61) (h2 : ¬ zs.getD i 0 = 43) (h3 : ¬ zs.getD i 0 = 45) (h4 : ¬ zs.getD i 0 = 126) : parse zs = none := by
  unfold At at h
  rw [h, drop1 zs i hi, parse_other _ _ h1 h2 h3 h4]
  rfl
end Go.Proofs.Ymwhbc

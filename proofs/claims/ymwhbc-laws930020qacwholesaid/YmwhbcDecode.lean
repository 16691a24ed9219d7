/-
  THE WALK OF 'Decode'.
-/
import Derived.Test.YmwhbcOwn
import Derived.Test.YmwhbcParse
import Derived.WalkLawsBesides
namespace Go.Proofs.Ymwhbc
open Go.RowKit

/-- What a parser of the printed form leaves: nil and false where the text is refused; else a slice of its own that is not nil, of the parsed ops, and true. -/
def Parsed (zs : List Int) (w : World) (e : Ending) (w' : World) : Prop :=
  Below w.heap.size w w' ∧
  ((parse zs = none ∧ e = .returned (.tuple #[.slice none 0 0, .bool false])) ∨
   ∃ ops g c, parse zs = some ops ∧ e = .returned (.tuple #[.slice (some ⟨g, 0, none⟩) ops.length c, .bool true]) ∧ w'.ownsRow w.heap.size 24 3 (.slice (some ⟨g, 0, none⟩) ops.length c) ops.length (opsC ops))

set_option maxHeartbeats 1600000 in
theorem decode_any (b n : Nat) (zs : List Int) (w : World) (hz : zs.length = n) (hn : n ≤ 4096) (hb : b < w.heap.size)
    (hc : ∀ j, j < n → w.cell? ⟨b, j, none⟩ = some (.int .u8 (zs.getD j 0))) :
    Calls Ybcv.prog 10 #[.slice (some ⟨b, 0, none⟩) n n] w fun e w' => Parsed zs w e w' := by
  obtain ⟨i0, hi, hz0, hz1, hz2⟩ := info_parts info24
  go_enter Ybcv.func10, Ybcv.ntmps10
  go_wp2_with (at_make; refine wpList_make_own _ rfl _ _ 30 rfl w.heap.size 24 i0 (.agg #[.int .u8 0, .int .u8 0, .int .u8 0]) 3 Ybcv.underlying30 hi hz0 hz1 _ _ _ (n / 2) rfl rfl (by omega) ?b2 ?b3 (Nat.le_refl _) ?_)
  case b2 => rw [hz2]; omega
  case b3 => unfold maxLen; omega
  intro w0 hown0 hgrow0
  go_wp2
  go_loopw [4, 5] (fun out si wr => ∃ (i g c : Nat) (acc : List (Int × Int × Int)), i ≤ n ∧ acc.length ≤ i ∧ si = .int .i64 i ∧ out = .slice (some ⟨g, 0, none⟩) acc.length c ∧
      wr.ownsRow w.heap.size 24 3 (.slice (some ⟨g, 0, none⟩) acc.length c) acc.length (opsC acc) ∧ Below w.heap.size w wr ∧ At zs i acc)
    (fun _ si _ => n - (intOf si).toNat)
  case atStart => exact ⟨0, w.heap.size, n / 2, [], by omega, by simp, rfl, rfl, hown0, (Below.refl _ _).grown hgrow0 (Nat.le_refl _) (fun k h => by cases h), At.start zs⟩
  case round =>
    obtain ⟨i, g, c, acc, hin, hal, rfl, rfl, hown, hnx, hat⟩ := hrel
    have HA : Hid (At zs i acc) := hat
    clear hat
    have hsize := hnx.size
    by_cases hlt : i < n
    · have c0 := (hnx.cell (p := ⟨b, i, none⟩) hb).trans (hc i hlt)
      obtain ⟨k, hk⟩ : ∃ k, k = zs.getD i 0 := ⟨_, rfl⟩
      rw [← hk] at c0
      have HK : Hid (k = zs.getD i 0) := hk
      have hbr : b < wr.heap.size := by omega
      clear hk
      by_cases h61 : k = 61
      · subst h61
        by_cases hl2 : n - i < 2
        · clear hc
          have hl2' : (n : Int) - i < 2 := by omega
          go_wp2
          go_ret2
          exact ⟨hnx, .inl ⟨HA.out.short (by omega), rfl⟩⟩
        · have c1 := (hnx.cell (p := ⟨b, i + 1, none⟩) hb).trans (hc (i + 1) (by omega))
          obtain ⟨x, hx⟩ : ∃ x, x = zs.getD (i + 1) 0 := ⟨_, rfl⟩
          rw [← hx] at c1
          have HX : Hid (x = zs.getD (i + 1) 0) := hx
          have hi2 : (i : Int) + 1 < n := by omega
          have hv : vld 61 x x = true := by simp [vld_61]
          clear hc hx
          go_wp2_with (first
            | (go_at_call 7; refine (valid_any _ _ _ _).mono ?_; rintro e w' ⟨rfl, rfl⟩)
            | (at_builtin; refine wpList_append_lies _ rfl (.tmp 55) (.tmp 57) 30 rfl w.heap.size 24 i0 (.agg #[.int .u8 0, .int .u8 0, .int .u8 0]) 3 3 Ybcv.underlying30 hi hz0 hz1 hz2 rfl (by omega) (.slice (some ⟨g, 0, none⟩) acc.length c) acc.length (opsC acc) rfl (((hown.alloc _).alloc _).alloc _) ⟨wr.heap.size + 1 + 1, 0, none⟩ 1 1 [.int .u8 61, .int .u8 x, .int .u8 x] rfl rfl (news3 _ _ (by simp) _ _ _ _) (three_one _ _ _) (by omega) (by unfold maxLen; omega) (by omega) (by simp; omega) _ rfl ?_; intro g1 c1 w1 hown1 hgrow1 hat1 hlt1))
          have R := rel_push (((hown.alloc _).alloc _).alloc _) (((hnx.alloc hsize _).alloc (by simp; omega) _).alloc (by simp; omega) _) (by simp; omega) hown1 hgrow1
          go_roundw
          case rel => exact ⟨i + 2, g1, c1, acc ++ [(61, x, x)], by omega, by simp; omega, by go_num, by simp, R.1, R.2, HA.out.s61 (by omega) HK.out.symm HX.out.symm⟩
          case measure => simp [intOf]; omega
      by_cases h43 : k = 43
      · subst h43
        by_cases hl2 : n - i < 2
        · clear hc
          have hl2' : (n : Int) - i < 2 := by omega
          go_wp2
          go_ret2
          exact ⟨hnx, .inl ⟨HA.out.short (by omega), rfl⟩⟩
        · have c1 := (hnx.cell (p := ⟨b, i + 1, none⟩) hb).trans (hc (i + 1) (by omega))
          obtain ⟨x, hx⟩ : ∃ x, x = zs.getD (i + 1) 0 := ⟨_, rfl⟩
          rw [← hx] at c1
          have HX : Hid (x = zs.getD (i + 1) 0) := hx
          have hi2 : (i : Int) + 1 < n := by omega
          have hv : vld 43 0 x = true := by simp [vld_43]
          clear hc hx
          go_wp2_with (first
            | (go_at_call 7; refine (valid_any _ _ _ _).mono ?_; rintro e w' ⟨rfl, rfl⟩)
            | (at_builtin; refine wpList_append_lies _ rfl (.tmp 55) (.tmp 57) 30 rfl w.heap.size 24 i0 (.agg #[.int .u8 0, .int .u8 0, .int .u8 0]) 3 3 Ybcv.underlying30 hi hz0 hz1 hz2 rfl (by omega) (.slice (some ⟨g, 0, none⟩) acc.length c) acc.length (opsC acc) rfl (((hown.alloc _).alloc _).alloc _) ⟨wr.heap.size + 1 + 1, 0, none⟩ 1 1 [.int .u8 43, .int .u8 0, .int .u8 x] rfl rfl (news3 _ _ (by simp) _ _ _ _) (three_one _ _ _) (by omega) (by unfold maxLen; omega) (by omega) (by simp; omega) _ rfl ?_; intro g1 c1 w1 hown1 hgrow1 hat1 hlt1))
          have R := rel_push (((hown.alloc _).alloc _).alloc _) (((hnx.alloc hsize _).alloc (by simp; omega) _).alloc (by simp; omega) _) (by simp; omega) hown1 hgrow1
          go_roundw
          case rel => exact ⟨i + 2, g1, c1, acc ++ [(43, 0, x)], by omega, by simp; omega, by go_num, by simp, R.1, R.2, HA.out.s43 (by omega) HK.out.symm HX.out.symm⟩
          case measure => simp [intOf]; omega
      by_cases h45 : k = 45
      · subst h45
        by_cases hl2 : n - i < 2
        · clear hc
          have hl2' : (n : Int) - i < 2 := by omega
          go_wp2
          go_ret2
          exact ⟨hnx, .inl ⟨HA.out.short (by omega), rfl⟩⟩
        · have c1 := (hnx.cell (p := ⟨b, i + 1, none⟩) hb).trans (hc (i + 1) (by omega))
          obtain ⟨x, hx⟩ : ∃ x, x = zs.getD (i + 1) 0 := ⟨_, rfl⟩
          rw [← hx] at c1
          have HX : Hid (x = zs.getD (i + 1) 0) := hx
          have hi2 : (i : Int) + 1 < n := by omega
          have hv : vld 45 x 0 = true := by simp [vld_45]
          clear hc hx
          go_wp2_with (first
            | (go_at_call 7; refine (valid_any _ _ _ _).mono ?_; rintro e w' ⟨rfl, rfl⟩)
            | (at_builtin; refine wpList_append_lies _ rfl (.tmp 55) (.tmp 57) 30 rfl w.heap.size 24 i0 (.agg #[.int .u8 0, .int .u8 0, .int .u8 0]) 3 3 Ybcv.underlying30 hi hz0 hz1 hz2 rfl (by omega) (.slice (some ⟨g, 0, none⟩) acc.length c) acc.length (opsC acc) rfl (((hown.alloc _).alloc _).alloc _) ⟨wr.heap.size + 1 + 1, 0, none⟩ 1 1 [.int .u8 45, .int .u8 x, .int .u8 0] rfl rfl (news3 _ _ (by simp) _ _ _ _) (three_one _ _ _) (by omega) (by unfold maxLen; omega) (by omega) (by simp; omega) _ rfl ?_; intro g1 c1 w1 hown1 hgrow1 hat1 hlt1))
          have R := rel_push (((hown.alloc _).alloc _).alloc _) (((hnx.alloc hsize _).alloc (by simp; omega) _).alloc (by simp; omega) _) (by simp; omega) hown1 hgrow1
          go_roundw
          case rel => exact ⟨i + 2, g1, c1, acc ++ [(45, x, 0)], by omega, by simp; omega, by go_num, by simp, R.1, R.2, HA.out.s45 (by omega) HK.out.symm HX.out.symm⟩
          case measure => simp [intOf]; omega
      by_cases h126 : k = 126
      · subst h126
        by_cases hl2 : n - i < 3
        · clear hc
          have hl2' : (n : Int) - i < 3 := by omega
          go_wp2
          go_ret2
          exact ⟨hnx, .inl ⟨HA.out.short3 (by omega) HK.out.symm (by omega), rfl⟩⟩
        · have c1 := (hnx.cell (p := ⟨b, i + 1, none⟩) hb).trans (hc (i + 1) (by omega))
          obtain ⟨x, hx⟩ : ∃ x, x = zs.getD (i + 1) 0 := ⟨_, rfl⟩
          rw [← hx] at c1
          have HX : Hid (x = zs.getD (i + 1) 0) := hx
          have c2 := (hnx.cell (p := ⟨b, i + 2, none⟩) hb).trans (hc (i + 2) (by omega))
          obtain ⟨y, hy⟩ : ∃ y, y = zs.getD (i + 2) 0 := ⟨_, rfl⟩
          rw [← hy] at c2
          have HY : Hid (y = zs.getD (i + 2) 0) := hy
          have hi2 : (i : Int) + 1 < n := by omega
          have hi3 : (i : Int) + 2 < n := by omega
          clear hc hx hy
          by_cases hxy : x = y
          · subst hxy
            have hv : vld 126 x x = false := by simp [vld_126]
            go_wp2_with (first | (go_at_call 7; refine (valid_any _ _ _ _).mono ?_; rintro e w' ⟨rfl, rfl⟩))
            go_ret2
            exact ⟨(hnx.alloc hsize _).alloc (by simp; omega) _, .inl ⟨HA.out.same (by omega) HK.out.symm (HX.out.symm.trans HY.out), rfl⟩⟩
          · have hv : vld 126 x y = true := by simpa [vld_126] using hxy
            have HNE : Hid (¬ x = y) := hxy
            clear hxy
            go_wp2_with (first
              | (go_at_call 7; refine (valid_any _ _ _ _).mono ?_; rintro e w' ⟨rfl, rfl⟩)
              | (at_builtin; refine wpList_append_lies _ rfl (.tmp 55) (.tmp 57) 30 rfl w.heap.size 24 i0 (.agg #[.int .u8 0, .int .u8 0, .int .u8 0]) 3 3 Ybcv.underlying30 hi hz0 hz1 hz2 rfl (by omega) (.slice (some ⟨g, 0, none⟩) acc.length c) acc.length (opsC acc) rfl (((hown.alloc _).alloc _).alloc _) ⟨wr.heap.size + 1 + 1, 0, none⟩ 1 1 [.int .u8 126, .int .u8 x, .int .u8 y] rfl rfl (news3 _ _ (by simp) _ _ _ _) (three_one _ _ _) (by omega) (by unfold maxLen; omega) (by omega) (by simp; omega) _ rfl ?_; intro g1 c1 w1 hown1 hgrow1 hat1 hlt1))
            have R := rel_push (((hown.alloc _).alloc _).alloc _) (((hnx.alloc hsize _).alloc (by simp; omega) _).alloc (by simp; omega) _) (by simp; omega) hown1 hgrow1
            go_roundw
            case rel => exact ⟨i + 3, g1, c1, acc ++ [(126, x, y)], by omega, by simp; omega, by go_num, by simp, R.1, R.2, HA.out.s126 (by omega) HK.out.symm HX.out.symm HY.out.symm HNE.out⟩
            case measure => simp [intOf]; omega
      by_cases hl2 : n - i < 2
      · clear hc
        have b4 : (k == 126) = false := by simpa using h126
        have hl2' : (n : Int) - i < 2 := by omega
        go_wp2
        go_ret2
        exact ⟨hnx, .inl ⟨HA.out.short (by omega), rfl⟩⟩
      · have c1 := (hnx.cell (p := ⟨b, i + 1, none⟩) hb).trans (hc (i + 1) (by omega))
        obtain ⟨x, hx⟩ : ∃ x, x = zs.getD (i + 1) 0 := ⟨_, rfl⟩
        rw [← hx] at c1
        have HX : Hid (x = zs.getD (i + 1) 0) := hx
        have hi2 : (i : Int) + 1 < n := by omega
        have hv : vld k x x = false := vld_else x x h61 h126 h43 h45
        have b4 : (k == 126) = false := by simpa using h126
        have b2 : (k == 43) = false := by simpa using h43
        have b3 : (k == 45) = false := by simpa using h45
        have H0 : Hid (parse zs = none) := HA.out.other (by omega) (by rw [← HK.out]; exact h61) (by rw [← HK.out]; exact h43) (by rw [← HK.out]; exact h45) (by rw [← HK.out]; exact h126)
        clear hc hx h61 h43 h45 h126
        go_wp2_with (first | (go_at_call 7; refine (valid_any _ _ _ _).mono ?_; rintro e w' ⟨rfl, rfl⟩))
        go_ret2
        exact ⟨(hnx.alloc hsize _).alloc (by simp; omega) _, .inl ⟨H0.out, rfl⟩⟩
    · go_wp2
      go_ret2
      exact ⟨hnx, .inr ⟨acc, g, c, HA.out.done (by omega), rfl, hown⟩⟩
end Go.Proofs.Ymwhbc

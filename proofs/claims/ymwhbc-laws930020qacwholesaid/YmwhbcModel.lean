/-
  THE WALK OF 'zzs930020qacmodel', the independent parser.
-/
import Derived.Test.YmwhbcDecode
import Derived.Deep.RegionHeld3
import Derived.Deep.QuietTactic
import Derived.BigQuiet
import Derived.WalkSmall
namespace Go.Proofs.Ymwhbc
open Go.RowKit

set_option maxRecDepth 100000 in
set_option maxHeartbeats 1600000 in
theorem parser_any (b n : Nat) (zs : List Int) (w : World) (hz : zs.length = n) (hn : n ≤ 4096) (hb : b < w.heap.size)
    (hc : ∀ j, j < n → w.cell? ⟨b, j, none⟩ = some (.int .u8 (zs.getD j 0))) :
    Calls Ybcv.prog 11 #[.slice (some ⟨b, 0, none⟩) n n] w fun e w' => Parsed zs w e w' := by
  obtain ⟨i0, hi, hz0, hz1, hz2⟩ := info_parts info24
  go_enter Ybcv.func11, Ybcv.ntmps11
  go_wp2
  go_loopw [4, 6] (fun out si wr => ∃ (i g c : Nat) (acc : List (Int × Int × Int)), i ≤ n ∧ acc.length ≤ i ∧ si = .int .i64 i ∧ out = .slice (some ⟨g, 0, none⟩) acc.length c ∧
      wr.ownsRow w.heap.size 24 3 (.slice (some ⟨g, 0, none⟩) acc.length c) acc.length (opsC acc) ∧ Below w.heap.size w wr ∧ At zs i acc)
    (fun _ si _ => n - (intOf si).toNat)
  case atStart => exact ⟨0, w.heap.size, 0, [], by omega, by simp, rfl, rfl, World.ownsRow_made w #[] 0 (Nat.le_refl _) (by simp [maxLen]) (by simp), (Below.refl _ _).alloc (Nat.le_refl _) _, At.start zs⟩
  case round =>
    obtain ⟨i, g, c, acc, hin, hal, rfl, rfl, hown, hnx, hat⟩ := hrel
    have HA : Hid (At zs i acc) := hat
    clear hat
    have hsize := hnx.size
    by_cases hlt : i < n
    · have c0 := (hnx.cell (p := ⟨b, i, none⟩) hb).trans (hc i hlt)
      obtain ⟨k, hk⟩ : ∃ k, k = zs.getD i 0 := ⟨_, rfl⟩
      rw [← hk] at c0
      have HK : Hid (k = zs.getD i 0) := hk
      have hbr : b < wr.heap.size := by omega
      clear hk
      by_cases h61 : k = 61
      · subst h61
        by_cases hl2 : n - i < 2
        · clear hc
          have hl2' : (n : Int) ≤ i + 1 := by omega
          go_wp2
          go_ret2
          exact ⟨hnx, .inl ⟨HA.out.short (by omega), rfl⟩⟩
        · have c1 := (hnx.cell (p := ⟨b, i + 1, none⟩) hb).trans (hc (i + 1) (by omega))
          obtain ⟨x, hx⟩ : ∃ x, x = zs.getD (i + 1) 0 := ⟨_, rfl⟩
          rw [← hx] at c1
          have HX : Hid (x = zs.getD (i + 1) 0) := hx
          have hi0' : (0 : Int) ≤ (i : Int) + 1 := by omega
          have hi2 : (i : Int) + 1 < n := by omega
          have hw1 : IntKind.i64.wrap ((i : Int) + 1) = (i : Int) + 1 := by rw [IntKind.wrap_i64]; omega
          have ht1 : ((i : Int) + 1).toNat = i + 1 := by omega
          have hgb : b ≠ g := by have := hown.lt g rfl; omega
          clear hc hx
          go_wp2_with fail
          go_region_held3 (fun w' => w'.cell? ⟨b, i + 1, none⟩ = some (.int .u8 x))
            (first
              | go_keep
              | (rw [hgrow1.cell_far _ (by simp; omega) (by simp [Value.ownBlock]; exact hgb)]; assumption))
            ((refine step_append_lies _ (by rfl) _ _ _ (by rfl) w.heap.size 24 i0 _ 3 3 Ybcv.underlying30 hi hz0 hz1 hz2 rfl (by omega) (.slice (some ⟨g, 0, none⟩) acc.length c) acc.length (opsC acc) (by rfl) ((hown.alloc _).drew)
                ⟨wr.heap.size, 0, none⟩ 1 1 [.int .u8 61, .int .u8 x, .int .u8 x] (by rfl) (by rfl) (World.news_of_block (cs := #[.int .u8 61, .int .u8 x, .int .u8 x]) (t := 24) (fr := (0, 0)) (heap_alloc_new wr _)) (three_one _ _ _)
                (by omega) (by unfold maxLen; omega) (by omega) (by simp; omega) (wr.heap.size + 1) (by simp) ?_; intro g1 c1 w1 hown1 hgrow1 hat1 hlt1))
          have R := rel_push ((hown.alloc _).drew) ((hnx.alloc hsize _).drew) (by simp; omega) hown1 hgrow1
          clear hat1 hlt1 hw1 ht1 hown1 hgrow1 hown
          go_wp2
          go_roundw
          case rel => exact ⟨i + 2, g1, c1, acc ++ [(61, x, x)], by omega, by simp; omega, by go_num, by simp, R.1, R.2, HA.out.s61 (by omega) HK.out.symm HX.out.symm⟩
          case measure => simp [intOf]; omega
      by_cases h43 : k = 43
      · subst h43
        by_cases hl2 : n - i < 2
        · clear hc
          have hl2' : (n : Int) ≤ i + 1 := by omega
          go_wp2
          go_ret2
          exact ⟨hnx, .inl ⟨HA.out.short (by omega), rfl⟩⟩
        · have c1 := (hnx.cell (p := ⟨b, i + 1, none⟩) hb).trans (hc (i + 1) (by omega))
          obtain ⟨x, hx⟩ : ∃ x, x = zs.getD (i + 1) 0 := ⟨_, rfl⟩
          rw [← hx] at c1
          have HX : Hid (x = zs.getD (i + 1) 0) := hx
          have hi0' : (0 : Int) ≤ (i : Int) + 1 := by omega
          have hi2 : (i : Int) + 1 < n := by omega
          clear hc hx
          go_wp2_with (at_builtin; refine wpList_append_lies _ rfl (.tmp 47) (.tmp 54) 30 rfl w.heap.size 24 i0 (.agg #[.int .u8 0, .int .u8 0, .int .u8 0]) 3 3 Ybcv.underlying30 hi hz0 hz1 hz2 rfl (by omega) (.slice (some ⟨g, 0, none⟩) acc.length c) acc.length (opsC acc) rfl (hown.alloc _) ⟨wr.heap.size, 0, none⟩ 1 1 [.int .u8 43, .int .u8 0, .int .u8 x] rfl rfl (news3 _ _ rfl _ _ _ _) (three_one _ _ _) (by omega) (by unfold maxLen; omega) (by omega) (by simp; omega) _ rfl ?_; intro g1 c1 w1 hown1 hgrow1 hat1 hlt1; have R := rel_push (hown.alloc _) (hnx.alloc hsize _) (by simp; omega) hown1 hgrow1; clear hat1 hlt1 hown1 hgrow1 hown)
          go_roundw
          case rel => exact ⟨i + 2, g1, c1, acc ++ [(43, 0, x)], by omega, by simp; omega, by go_num, by simp, R.1, R.2, HA.out.s43 (by omega) HK.out.symm HX.out.symm⟩
          case measure => simp [intOf]; omega
      by_cases h45 : k = 45
      · subst h45
        by_cases hl2 : n - i < 2
        · clear hc
          have hl2' : (n : Int) ≤ i + 1 := by omega
          go_wp2
          go_ret2
          exact ⟨hnx, .inl ⟨HA.out.short (by omega), rfl⟩⟩
        · have c1 := (hnx.cell (p := ⟨b, i + 1, none⟩) hb).trans (hc (i + 1) (by omega))
          obtain ⟨x, hx⟩ : ∃ x, x = zs.getD (i + 1) 0 := ⟨_, rfl⟩
          rw [← hx] at c1
          have HX : Hid (x = zs.getD (i + 1) 0) := hx
          have hi0' : (0 : Int) ≤ (i : Int) + 1 := by omega
          have hi2 : (i : Int) + 1 < n := by omega
          clear hc hx
          go_wp2_with (at_builtin; refine wpList_append_lies _ rfl (.tmp 64) (.tmp 71) 30 rfl w.heap.size 24 i0 (.agg #[.int .u8 0, .int .u8 0, .int .u8 0]) 3 3 Ybcv.underlying30 hi hz0 hz1 hz2 rfl (by omega) (.slice (some ⟨g, 0, none⟩) acc.length c) acc.length (opsC acc) rfl (hown.alloc _) ⟨wr.heap.size, 0, none⟩ 1 1 [.int .u8 45, .int .u8 x, .int .u8 0] rfl rfl (news3 _ _ rfl _ _ _ _) (three_one _ _ _) (by omega) (by unfold maxLen; omega) (by omega) (by simp; omega) _ rfl ?_; intro g1 c1 w1 hown1 hgrow1 hat1 hlt1; have R := rel_push (hown.alloc _) (hnx.alloc hsize _) (by simp; omega) hown1 hgrow1; clear hat1 hlt1 hown1 hgrow1 hown)
          go_roundw
          case rel => exact ⟨i + 2, g1, c1, acc ++ [(45, x, 0)], by omega, by simp; omega, by go_num, by simp, R.1, R.2, HA.out.s45 (by omega) HK.out.symm HX.out.symm⟩
          case measure => simp [intOf]; omega
      by_cases h126 : k = 126
      · subst h126
        by_cases hl2 : n ≤ i + 2
        · clear hc
          have hd : decide ((n : Int) ≤ i + 2) = true := by simp; omega
          have hw2 : IntKind.i64.wrap ((i : Int) + 2) = (i : Int) + 2 := by rw [IntKind.wrap_i64]; omega
          go_wp2_with fail
          go_quiet (fail)
          go_wp2
          go_ret2
          exact ⟨below_drewN hnx _, .inl ⟨HA.out.short3 (by omega) HK.out.symm (by omega), rfl⟩⟩
        · have c1 := (hnx.cell (p := ⟨b, i + 1, none⟩) hb).trans (hc (i + 1) (by omega))
          obtain ⟨x, hx⟩ : ∃ x, x = zs.getD (i + 1) 0 := ⟨_, rfl⟩
          rw [← hx] at c1
          have HX : Hid (x = zs.getD (i + 1) 0) := hx
          have hi0' : (0 : Int) ≤ (i : Int) + 1 := by omega
          have hi2 : (i : Int) + 1 < n := by omega
          have c2 := (hnx.cell (p := ⟨b, i + 2, none⟩) hb).trans (hc (i + 2) (by omega))
          obtain ⟨y, hy⟩ : ∃ y, y = zs.getD (i + 2) 0 := ⟨_, rfl⟩
          rw [← hy] at c2
          have HY : Hid (y = zs.getD (i + 2) 0) := hy
          have hi0'' : (0 : Int) ≤ (i : Int) + 2 := by omega
          have hi3 : (i : Int) + 2 < n := by omega
          have hd : decide ((n : Int) ≤ i + 2) = false := by simp; omega
          have hw1 : IntKind.i64.wrap ((i : Int) + 1) = (i : Int) + 1 := by rw [IntKind.wrap_i64]; omega
          have hw2 : IntKind.i64.wrap ((i : Int) + 2) = (i : Int) + 2 := by rw [IntKind.wrap_i64]; omega
          have ht1 : ((i : Int) + 1).toNat = i + 1 := by omega
          have ht2 : ((i : Int) + 2).toNat = i + 2 := by omega
          have hgb : b ≠ g := by have := hown.lt g rfl; omega
          clear hc hx hy
          by_cases hxy : x = y
          · subst hxy
            go_wp2_with fail
            go_quiet (fail)
            go_wp2
            go_ret2
            exact ⟨below_drewN hnx _, .inl ⟨HA.out.same (by omega) HK.out.symm (HX.out.symm.trans HY.out), rfl⟩⟩
          · have hb1 : (x == y) = false := by simpa using hxy
            have HNE : Hid (¬ x = y) := hxy
            clear hxy
            go_wp2_with fail
            go_quiet (fail)
            go_wp2_with fail
            go_region_held3 (fun w' => w'.cell? ⟨b, i + 1, none⟩ = some (.int .u8 x) ∧ w'.cell? ⟨b, i + 2, none⟩ = some (.int .u8 y))
              (first
                | go_keep
                | (go_split_ands; refine ⟨?_, ?_⟩ <;> (rw [hgrow1.cell_far _ (by simp; omega) (by simp [Value.ownBlock]; exact hgb)]; assumption)))
              ((refine step_append_lies _ (by rfl) _ _ _ (by rfl) w.heap.size 24 i0 _ 3 3 Ybcv.underlying30 hi hz0 hz1 hz2 rfl (by omega) (.slice (some ⟨g, 0, none⟩) acc.length c) acc.length (opsC acc) (by rfl) (((show (wr.drewN nq).ownsRow _ _ _ _ _ _ from hown).alloc _).drew)
                  ⟨wr.heap.size, 0, none⟩ 1 1 [.int .u8 126, .int .u8 x, .int .u8 y] (by rfl) (by rfl) (World.news_of_block (cs := #[.int .u8 126, .int .u8 x, .int .u8 y]) (t := 24) (fr := (0, 0)) (heap_alloc_new (wr.drewN nq) _)) (three_one _ _ _)
                  (by omega) (by unfold maxLen; omega) (by omega) (by simp; omega) (wr.heap.size + 1) (by simp) ?_; intro g1 c1 w1 hown1 hgrow1 hat1 hlt1))
            have R := rel_push (((show (wr.drewN nq).ownsRow _ _ _ _ _ _ from hown).alloc _).drew) (((below_drewN hnx nq).alloc hsize _).drew) (by simp; omega) hown1 hgrow1
            clear hat1 hlt1 hw1 ht1 hw2 ht2 hown1 hgrow1 hown
            go_wp2
            go_roundw
            case rel => exact ⟨i + 3, g1, c1, acc ++ [(126, x, y)], by omega, by simp; omega, by go_num, by simp, R.1, R.2, HA.out.s126 (by omega) HK.out.symm HX.out.symm HY.out.symm HNE.out⟩
            case measure => simp [intOf]; omega
      have b1 : (k == 61) = false := by simpa using h61
      have b4 : (k == 126) = false := by simpa using h126
      have b2 : (k == 43) = false := by simpa using h43
      have b3 : (k == 45) = false := by simpa using h45
      have H0 : Hid (parse zs = none) := HA.out.other (by omega) (by rw [← HK.out]; exact h61) (by rw [← HK.out]; exact h43) (by rw [← HK.out]; exact h45) (by rw [← HK.out]; exact h126)
      clear hc h61 h43 h45 h126
      go_wp2
      go_ret2
      exact ⟨hnx, .inl ⟨H0.out, rfl⟩⟩
    · go_wp2
      go_ret2
      exact ⟨hnx, .inr ⟨acc, g, c, HA.out.done (by omega), rfl, hown⟩⟩
end Go.Proofs.Ymwhbc

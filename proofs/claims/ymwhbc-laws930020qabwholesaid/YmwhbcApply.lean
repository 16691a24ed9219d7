/-
  THE WALK OF 'Apply'.
-/
import Derived.Test.YmwhbcEq
import Derived.Test.YmwhbcScript
import Derived.WalkLawsBesides
namespace Go.Proofs.Ymwhbc
open Go.RowKit

theorem news1 (w : World) (H : Nat) (hH : w.heap.size = H) (x : Value) (t : TypeId) : ∀ j u, [x][j]? = some u → (w.alloc (.cells #[x] t)).cell? ((⟨H, 0, none⟩ : Addr).add j) = some u := by
  subst hH
  intro j u hj
  match j, hj with
  | 0, hj => simp at hj; subst hj; simp [Addr.add]
  | (j + 1), hj => simp at hj

theorem one_one (a : Int) : ∀ u ∈ [Value.int .u8 a], u.oneCell' = true := by
  intro u hu; simp at hu; subst hu; rfl

theorem own_drewN {w : World} {base e size n : Nat} {v : Value} {xs : List Value} (h : w.ownsRow base e size v n xs) (q : Nat) : (w.drewN q).ownsRow base e size v n xs := h

/-- The row of bytes that the loop gathers: O's bytes. -/
def Bytes (w : World) (B g c : Nat) (O : List Int) : Prop := w.ownsRow B 5 1 (.slice (some ⟨g, 0, none⟩) O.length c) O.length (O.map (Value.int .u8))

theorem Bytes.own {w : World} {B g c : Nat} {O : List Int} (h : Bytes w B g c O) : w.ownsRow B 5 1 (.slice (some ⟨g, 0, none⟩) O.length c) O.length (O.map (Value.int .u8)) := h

theorem Bytes.push {w X w1 : World} {B g c g' c' : Nat} {O : List Int} {n : Int} (hown : Bytes X B g c O) (hbel : Below B w X) (hB : B ≤ X.heap.size)
    (hown1 : w1.ownsRow B 5 1 (.slice (some ⟨g', 0, none⟩) (O.length + 1) c') (O.length + 1) (O.map (Value.int .u8) ++ [.int .u8 n])) (hgrow : X.grownBy w1 (Value.ownBlock (.slice (some ⟨g, 0, none⟩) O.length c))) :
    Bytes w1 B g' c' (O ++ [n]) ∧ Below B w w1 := by
  refine ⟨?_, hbel.grown hgrow hB (fun k hk => (World.ownsRow.lt hown k hk).1)⟩
  unfold Bytes
  rw [List.length_append, List.map_append]
  exact hown1

/-- What 'Apply' leaves: nil and false, or a slice of its own that is not nil, of the bytes written, and true. -/
def Applied (S : List (Int × Int × Int)) (A : List Int) (w : World) (e : Ending) (w' : World) : Prop :=
  Below w.heap.size w w' ∧
  ((res S A = none ∧ e = .returned (.tuple #[.slice none 0 0, .bool false])) ∨
   ∃ O g c, res S A = some O ∧ e = .returned (.tuple #[.slice (some ⟨g, 0, none⟩) O.length c, .bool true]) ∧ Bytes w' w.heap.size g c O)

set_option maxRecDepth 100000 in
set_option maxHeartbeats 1600000 in
theorem apply_any (gs cs bs : Nat) (S : List (Int × Int × Int)) (aa : Option Addr) (ga m ca : Nat) (A : List Int) (w : World) (hS : w.ownsRow bs 24 3 (.slice (some ⟨gs, 0, none⟩) S.length cs) S.length (opsC S)) (hSl : S.length ≤ 4096) (hA : A.length = m) (hm : m ≤ 4096)
    (haa : 0 < m → aa = some ⟨ga, 0, none⟩) (hga : 0 < m → ga < w.heap.size) (hc : ∀ j, j < m → w.cell? ⟨ga, j, none⟩ = some (.int .u8 (A.getD j 0))) :
    Calls Ybcv.prog 12 #[.slice (some ⟨gs, 0, none⟩) S.length cs, .slice aa m ca] w fun e w' => Applied S A w e w' := by
  obtain ⟨i5, hi5, hy0, hy1, hy2⟩ := info_parts info5
  have hgs := (hS.lt gs rfl).2
  have HS : Hid (w.ownsRow bs 24 3 (.slice (some ⟨gs, 0, none⟩) S.length cs) S.length (opsC S)) := hS
  have HC : Hid (∀ j, j < m → w.cell? ⟨ga, j, none⟩ = some (.int .u8 (A.getD j 0))) := hc
  have HA : Hid (A.length = m) := hA
  clear hS hc hA
  go_enter Ybcv.func12, Ybcv.ntmps12
  go_wp2_with (at_make; refine wpList_make_own _ rfl _ _ 28 rfl w.heap.size 5 i5 (.int .u8 0) 1 Ybcv.underlying28 hi5 hy0 hy1 _ _ _ m rfl rfl rfl ?b2 ?b3 (Nat.le_refl _) ?_)
  case b2 => rw [hy2]; omega
  case b3 => unfold maxLen; omega
  intro w0 hown0 hgrow0
  have HO0 : Hid (Bytes w0 w.heap.size w.heap.size m []) := hown0
  have HB0 : Hid (Below w.heap.size w w0) := (Below.refl _ _).grown hgrow0 (Nat.le_refl _) (fun k h => by cases h)
  clear hown0 hgrow0
  go_wp2
  go_loopw [15, 6, 7] (fun si out sp wr => ∃ (i p g c : Nat) (O : List Int), i ≤ S.length ∧ p ≤ m ∧ O.length ≤ i ∧ si = .int .i64 i ∧ sp = .int .i64 p ∧ out = .slice (some ⟨g, 0, none⟩) O.length c ∧
      Bytes wr w.heap.size g c O ∧ O = outs (S.take i) ∧ Run S A i p ∧ Below w.heap.size w wr)
    (fun si _ _ _ => S.length - (intOf si).toNat)
  case atStart => exact ⟨0, 0, w.heap.size, m, [], by omega, by omega, by simp, rfl, rfl, rfl, HO0.out, by simp [outs], Run.start S A, HB0.out⟩
  case round =>
    obtain ⟨i, p, g, c, O, hin, hpm, hOl, rfl, rfl, rfl, hown, hO, hrun, hnx⟩ := hrel
    have HO : Hid (O = outs (S.take i)) := hO
    have HR : Hid (Run S A i p) := hrun
    have HW : Hid (Bytes wr w.heap.size g c O) := hown
    clear hO hrun hown HO0 HB0
    have hsize := hnx.size
    by_cases hlt : i < S.length
    · obtain ⟨d0, d1, d2⟩ := own_op HS.out i hlt
      obtain ⟨⟨k, o, n⟩, hkon⟩ : ∃ t, t = S[i] := ⟨_, rfl⟩
      rw [← hkon] at d0 d1 d2
      have c0 := (hnx.cell (p := ⟨gs, i * 3, none⟩) hgs).trans d0
      have c1 := (hnx.cell (p := ⟨gs, i * 3 + 1, none⟩) hgs).trans d1
      have c2 := (hnx.cell (p := ⟨gs, i * 3 + 2, none⟩) hgs).trans d2
      have HK : Hid (S[i] = (k, o, n)) := hkon.symm
      have hi1 : (i : Int) < S.length := by omega
      have hgr : gs < wr.heap.size := by omega
      clear d0 d1 d2 hkon
      cases hv : vld k o n with
      | false =>
        go_wp2_with (first | (go_at_call 7; refine (valid_any _ _ _ _).mono ?_; rintro e w' ⟨rfl, rfl⟩))
        go_ret2
        exact ⟨(hnx.alloc hsize _).alloc (by simp; omega) _, .inl ⟨Run.bad hlt HK.out hv, rfl⟩⟩
      | true =>
        by_cases h43 : k = 43
        · subst h43
          go_wp2_with (first
            | (go_at_call 7; refine (valid_any _ _ _ _).mono ?_; rintro e w' ⟨rfl, rfl⟩)
            | (at_builtin; refine wpList_append_lies _ rfl (.tmp 43) (.tmp 46) 28 rfl w.heap.size 5 i5 (.int .u8 0) 1 1 Ybcv.underlying28 hi5 hy0 hy1 hy2 rfl (by omega) (.slice (some ⟨g, 0, none⟩) O.length c) O.length (O.map (Value.int .u8)) rfl (((HW.out.own.alloc _).alloc _).alloc _) ⟨wr.heap.size + 1 + 1, 0, none⟩ 1 1 [.int .u8 n] rfl rfl (news1 _ _ (by simp) _ _) (one_one _) (by omega) (by unfold maxLen; omega) (by omega) (by simp; omega) _ rfl ?_; intro g1 c1 w1 hown1 hgrow1 hat1 hlt1))
          have R := Bytes.push (((HW.out.own.alloc _).alloc _).alloc _) (((hnx.alloc hsize _).alloc (by simp; omega) _).alloc (by simp; omega) _) (by simp; omega) hown1 hgrow1
          clear hat1 hlt1 hown1 hgrow1
          go_wp2
          go_roundw
          case rel => exact ⟨i + 1, p, g1, c1, O ++ [n], by omega, hpm, by simp; omega, by go_num, rfl, by simp, R.1, by rw [outs_yes hlt HK.out (by decide), HO.out], HR.out.insert hlt HK.out hv, R.2⟩
          case measure => simp [intOf]; omega
        · have hb43 : (k == 43) = false := by simpa using h43
          have HN : Hid (¬ k = 43) := h43
          clear h43
          by_cases hpe : p = m
          · subst hpe
            have hd : ((p : Int) == (p : Int)) = true := by simp
            go_wp2_with (first
              | (go_at_call 7; refine (valid_any _ _ _ _).mono ?_; rintro e w' ⟨rfl, rfl⟩))
            go_quiet (fail)
            go_wp2
            go_ret2
            exact ⟨below_drewN ((hnx.alloc hsize _).alloc (by simp; omega) _) _, .inl ⟨HR.out.short hlt HK.out HN.out HA.out.symm, rfl⟩⟩
          · obtain rfl := haa (by omega)
            have hga' := hga (by omega)
            have e0 := (hnx.cell (p := ⟨ga, p, none⟩) hga').trans (HC.out p (by omega))
            obtain ⟨x, hx⟩ : ∃ x, x = A.getD p 0 := ⟨_, rfl⟩
            rw [← hx] at e0
            have HX : Hid (A.getD p 0 = x) := hx.symm
            have hgar : ga < wr.heap.size := by omega
            have hp1 : (p : Int) < m := by omega
            have hp0 : (0 : Int) ≤ p := by omega
            have hd : ((p : Int) == (m : Int)) = false := by simp; omega
            clear hx haa hga hpe
            by_cases hxo : x = o
            · subst hxo
              by_cases h45 : k = 45
              · subst h45
                go_wp2_with (first
                  | (go_at_call 7; refine (valid_any _ _ _ _).mono ?_; rintro e w' ⟨rfl, rfl⟩))
                go_quiet (fail)
                go_wp2
                go_roundw
                case rel => exact ⟨i + 1, p + 1, g, c, O, by omega, by omega, by omega, by go_num, by go_num, rfl, ((HW.out.own.alloc _).alloc _), by rw [outs_no hlt HK.out, HO.out], HR.out.read hlt HK.out HN.out hv (by rw [HA.out]; omega) HX.out, below_drewN ((hnx.alloc hsize _).alloc (by simp; omega) _) _⟩
                case measure => simp [intOf]; omega
              · have hb45 : (k == 45) = false := by simpa using h45
                have HN5 : Hid (¬ k = 45) := h45
                clear h45
                go_wp2_with (first
                  | (go_at_call 7; refine (valid_any _ _ _ _).mono ?_; rintro e w' ⟨rfl, rfl⟩))
                go_quiet (fail)
                go_wp2_with (at_builtin; refine wpList_append_lies _ rfl (.tmp 43) (.tmp 46) 28 rfl w.heap.size 5 i5 (.int .u8 0) 1 1 Ybcv.underlying28 hi5 hy0 hy1 hy2 rfl (by omega) (.slice (some ⟨g, 0, none⟩) O.length c) O.length (O.map (Value.int .u8)) rfl ((own_drewN ((HW.out.own.alloc _).alloc _) nq).alloc _) ⟨wr.heap.size + 1 + 1, 0, none⟩ 1 1 [.int .u8 n] rfl rfl (news1 _ _ (by simp) _ _) (one_one _) (by omega) (by unfold maxLen; omega) (by omega) (by simp; omega) _ rfl ?_; intro g1 c1 w1 hown1 hgrow1 hat1 hlt1)
                have R := Bytes.push ((own_drewN ((HW.out.own.alloc _).alloc _) nq).alloc _) ((below_drewN ((hnx.alloc hsize _).alloc (by simp; omega) _) nq).alloc (by simp; omega) _) (by simp; omega) hown1 hgrow1
                clear hat1 hlt1 hown1 hgrow1
                go_wp2
                go_roundw
                case rel => exact ⟨i + 1, p + 1, g1, c1, O ++ [n], by omega, by omega, by simp; omega, by go_num, by go_num, by simp, R.1, by rw [outs_yes hlt HK.out HN5.out, HO.out], HR.out.read hlt HK.out HN.out hv (by rw [HA.out]; omega) HX.out, R.2⟩
                case measure => simp [intOf]; omega
            · have hbx : (x == o) = false := by simpa using hxo
              have HXO : Hid (¬ A.getD p 0 = o) := by rw [HX.out]; exact hxo
              clear hxo
              go_wp2_with (first
                | (go_at_call 7; refine (valid_any _ _ _ _).mono ?_; rintro e w' ⟨rfl, rfl⟩))
              go_quiet (fail)
              go_wp2
              go_ret2
              exact ⟨below_drewN ((hnx.alloc hsize _).alloc (by simp; omega) _) _, .inl ⟨HR.out.differs hlt HK.out HN.out HXO.out, rfl⟩⟩
    · by_cases hpe : p = m
      · subst hpe
        have hd : ((p : Int) == (p : Int)) = true := by simp
        go_wp2
        go_ret2
        obtain rfl : i = S.length := by omega
        have hO := HO.out
        rw [List.take_length] at hO
        exact ⟨hnx, .inr ⟨O, g, c, by rw [HR.out.done rfl HA.out.symm, hO], rfl, HW.out⟩⟩
      · have hd : ((p : Int) == (m : Int)) = false := by simp; omega
        go_wp2
        go_ret2
        exact ⟨hnx, .inl ⟨HR.out.left (by omega) (by rw [HA.out]; exact hpe), rfl⟩⟩
end Go.Proofs.Ymwhbc

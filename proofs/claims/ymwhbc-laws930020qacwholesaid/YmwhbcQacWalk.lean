/-
  THE WALK OF 'LawS930020QACWhole'.
-/
import Derived.Test.YmwhbcModel
import Derived.Test.YmwhbcBytes
import Derived.WalkSpells
namespace Go.Proofs.Ymwhbc
open Go.RowKit

/-- The text that is parsed: the bytes as drawn, or each mapped. -/
def textOf (raw : Bool) (zs : List Int) : List Int := zs.map fun b => if raw = true then b else pickByte b

theorem textOf_raw (zs : List Int) (i : Nat) : zs.getD i 0 = (textOf true zs).getD i 0 := by simp [textOf]
theorem textOf_pick (zs : List Int) (i : Nat) (h : i < zs.length) : pickByte (zs.getD i 0) = (textOf false zs).getD i 0 := by simp [textOf, List.getD, h]

/-- An op is itself: '!=' between two equal ops says false. -/
theorem eq24 (a b c : Int) (w : World) : (Op.equalIn 10000 24 (.agg #[.int .u8 a, .int .u8 b, .int .u8 c]) (.agg #[.int .u8 a, .int .u8 b, .int .u8 c])).run Ybcv.prog w = .ok true w := by
  have u5 := Ybcv.underlying5
  have a5 := Ybcv.isAgg5
  have z5 := Ybcv.sizeOf5
  have hS : Ybcv.prog.underlying 24 = some (.struct (Ybcv.prog.fieldsOf 24)) := by kernel_rfl
  have hp : Ybcv.prog.stoodInHeld 24 = false := by kernel_rfl
  rw [show (10000 : Nat) = 9999 + 1 from rfl, run_equalIn_agg w 9999 24 _ _ hS hp]
  simp only [Program.fieldsOf, Ybcv.underlying24]
  go_simp

theorem neq24 (a b c : Int) (w : World) : (binOp .neq 24 (.agg #[.int .u8 a, .int .u8 b, .int .u8 c]) (.agg #[.int .u8 a, .int .u8 b, .int .u8 c])).run Ybcv.prog w = .ok (.bool false) w := by
  rw [run_neq_struct, eq24]
  rfl

set_option maxRecDepth 100000 in
set_option maxHeartbeats 1600000 in
theorem qac_any (a0 : Option Addr) (b off n cap : Nat) (zs : List Int) (raw : Bool) (w : World) (hz : zs.length = n) (hn : n ≤ 4096) (hb : 0 < n → b < w.heap.size) (ha : 0 < n → a0 = some ⟨b, off, none⟩)
    (hc : ∀ j, j < n → w.cell? ⟨b, off + j, none⟩ = some (.int .u8 (zs.getD j 0))) (hr : ∀ j : Nat, 0 ≤ zs.getD j 0 ∧ zs.getD j 0 ≤ 255) :
    Calls Ybcv.prog 4 #[.slice a0 n cap, .bool raw] w fun e w' => e = .returned (.bool true) ∧ Below w.heap.size w w' := by
  obtain ⟨i5, hi5, hy0, hy1, hy2⟩ := info_parts info5
  have hn' : (n : Int) ≤ 4096 := by omega
  have tok1 : True := trivial
  have tok2 : True := trivial
  go_enter Ybcv.func4, Ybcv.ntmps4
  go_wp2_with (first
    | (at_make; have _t := tok1; refine wpList_make_full _ rfl (.tmp 19) (.tmp 19) 28 rfl w.heap.size 5 i5 (.int .u8 0) 1 Ybcv.underlying28 hi5 hy0 hy1 _ _ _ _ n rfl rfl rfl rfl (by rw [hy2]; omega) (by unfold maxLen; omega) (Nat.le_refl _) ?_; intro w1 hown1 hgrow1; clear tok1; have hsz1 := (hown1.lt w.heap.size rfl).2)
    | (at_make; have _t := tok2; refine wpList_make_full _ rfl (.tmp 22) (.tmp 22) 28 rfl w.heap.size 5 i5 (.int .u8 0) 1 Ybcv.underlying28 hi5 hy0 hy1 _ _ _ _ n rfl rfl rfl rfl (by rw [hy2]; omega) (by unfold maxLen; omega) (by omega) ?_; intro w2 hown2 hgrow2; clear tok2))
  have F1 := (Filled.start (textOf raw zs) hown1).grown hgrow2
  have F2 := Filled.start (textOf raw zs) hown2
  have hB0 : Below w.heap.size w w2 := ((Below.refl _ _).grown hgrow1 (Nat.le_refl _) (fun k h => by cases h)).grown hgrow2 (by omega) (fun k h => by cases h)
  have hg12 : w.heap.size < w1.heap.size := hsz1
  clear hown1 hown2 hgrow1 hgrow2 hsz1
  obtain ⟨g2, hg2⟩ : ∃ g2, g2 = w1.heap.size := ⟨_, rfl⟩
  rw [← hg2] at F2 hg12 ⊢
  clear hg2
  go_loopw [7] (fun si wr => ∃ i : Nat, i ≤ n ∧ si = .int .i64 i ∧ Filled wr w.heap.size w.heap.size n (textOf raw zs) i ∧ Filled wr w.heap.size g2 n (textOf raw zs) i ∧ Below w.heap.size w wr)
    (fun si _ => n - (intOf si).toNat)
  case atStart => exact ⟨0, by omega, rfl, F1, F2, hB0⟩
  case round =>
    obtain ⟨i, hin, rfl, F1, F2, hnx⟩ := hrel
    by_cases hlt : i < n
    · obtain rfl := ha (by omega)
      have c0 := (hnx.cell (p := ⟨b, off + i, none⟩) (hb (by omega))).trans (hc i hlt)
      obtain ⟨v1, k1⟩ := F1.some i hlt
      obtain ⟨v2, k2⟩ := F2.some i hlt
      have f1 := F1.free i
      have f2 := F2.free i
      have hr0 := hr i
      obtain ⟨x, hx⟩ : ∃ x, x = zs.getD i 0 := ⟨_, rfl⟩
      rw [← hx] at c0 hr0
      have HX : Hid (x = zs.getD i 0) := hx
      have HF1 : Hid (Filled wr w.heap.size w.heap.size n (textOf raw zs) i) := F1
      have HF2 : Hid (Filled wr w.heap.size g2 n (textOf raw zs) i) := F2
      clear hc hr hx F1 F2 ha hb
      cases raw with
      | true =>
        go_wp2
        go_roundw
        case rel => exact ⟨i + 1, by omega, by go_num, (HF1.out.store hlt (HX.out.trans (textOf_raw zs i))).other (by simp; omega) _, (HF2.out.other (by simp; omega) _).store hlt (HX.out.trans (textOf_raw zs i)), (hnx.setCell (by simp) _).setCell (by simp; omega) _⟩
        case measure => simp [intOf]; omega
      | false =>
        go_wp2_with (first | (go_at_call 9; refine (pick_any _ _ hr0.1 hr0.2).mono ?_; rintro e w' ⟨rfl, rfl⟩))
        go_roundw
        case rel => exact ⟨i + 1, by omega, by go_num, (HF1.out.store hlt (by rw [HX.out]; exact textOf_pick zs i (by omega))).other (by simp; omega) _, (HF2.out.other (by simp; omega) _).store hlt (by rw [HX.out]; exact textOf_pick zs i (by omega)), (hnx.setCell (by simp) _).setCell (by simp; omega) _⟩
        case measure => simp [intOf]; omega
    · obtain rfl : i = n := by omega
      have hTl : (textOf raw zs).length = i := by simp [textOf, hz]
      obtain ⟨T, hT⟩ : ∃ T, T = textOf raw zs := ⟨_, rfl⟩
      rw [← hT] at F1 F2 hTl
      clear hT hc hr ha hb hi5 hy0 hy1 hy2 hB0 hin
      have hw1 := F1.lt.2
      have hw2 := F2.lt.2
      have C1 := fun j (hj : j < i) => F1.cell j hj hj
      have C2 := fun j (hj : j < i) => F2.cell j hj hj
      clear F1 F2
      have HC1 : Hid (∀ j, j < i → wr.cell? ⟨w.heap.size, j, none⟩ = some (.int .u8 (T.getD j 0))) := C1
      have HC2 : Hid (∀ j, j < i → wr.cell? ⟨g2, j, none⟩ = some (.int .u8 (T.getD j 0))) := C2
      clear C1 C2
      go_wp2_with fail
      refine (decode_any w.heap.size i T wr hTl hn hw1 HC1.out).mono ?_
      rintro e w3 ⟨hb3, hp⟩
      have hs3 := hb3.size
      have hnx3 : Below w.heap.size w w3 := hnx.trans (hb3.mono (by omega))
      have HD1 : Hid (∀ j, j < i → w3.cell? ⟨w.heap.size, j, none⟩ = some (.int .u8 (T.getD j 0))) := fun j hj => (hb3.cell (p := ⟨w.heap.size, j, none⟩) hw1).trans (HC1.out j hj)
      have HD2 : Hid (∀ j, j < i → w3.cell? ⟨g2, j, none⟩ = some (.int .u8 (T.getD j 0))) := fun j hj => (hb3.cell (p := ⟨g2, j, none⟩) hw2).trans (HC2.out j hj)
      clear HC1 HC2 hnx
      rcases hp with ⟨hp, rfl⟩ | ⟨ops, g, c, hp, rfl, hown⟩
      · have HP : Hid (parse T = none) := hp
        clear hp
        go_wp2_with fail
        go_loopw [11] (fun si wx => ∃ k : Nat, k ≤ i ∧ si = .int .i64 k ∧ Below w3.heap.size w3 wx) (fun si _ => i - (intOf si).toNat)
        case atStart => exact ⟨0, by omega, rfl, Below.refl _ _⟩
        case round =>
          obtain ⟨wo, rfl⟩ : ∃ wo : World, wo = wr := ⟨_, rfl⟩
          obtain ⟨k, hki, rfl, hbx⟩ := hrel
          by_cases hlt : k < i
          · have c1 := (hbx.cell (p := ⟨w.heap.size, k, none⟩) (by show w.heap.size < w3.heap.size; omega)).trans (HD1.out k hlt)
            have c2 := (hbx.cell (p := ⟨g2, k, none⟩) (by show g2 < w3.heap.size; omega)).trans (HD2.out k hlt)
            have hk1 : (k : Int) < i := by omega
            have hk0 : (0 : Int) ≤ k := by omega
            go_wp2_with fail
            go_quiet (fail)
            go_wp2
            go_roundw
            case rel => exact ⟨k + 1, by omega, by go_num, below_drewN hbx _⟩
            case measure => simp [intOf]; omega
          · go_wp2_with fail
            have hs4 := hbx.size
            refine (parser_any g2 i T wo hTl hn (by omega) (fun j hj => (hbx.cell (p := ⟨g2, j, none⟩) (by show g2 < w3.heap.size; omega)).trans (HD2.out j hj))).mono ?_
            rintro e w4 ⟨hb4, hp4⟩
            rcases hp4 with ⟨hp4, rfl⟩ | ⟨ops4, g4, c4, hp4, _⟩
            · have he := fun wx => Lib.run_eql_slice_nil (P := Ybcv.prog) wx 30 24 none 0 0 0 0 Ybcv.underlying30
              clear hp4
              go_wp2
              go_ret
              exact ⟨rfl, (hnx3.trans (hbx.mono (by omega))).trans (hb4.mono (by omega))⟩
            · rw [HP.out] at hp4
              cases hp4
      · have HP : Hid (parse T = some ops) := hp
        have HO : Hid (w3.ownsRow wr.heap.size 24 3 (.slice (some ⟨g, 0, none⟩) ops.length c) ops.length (opsC ops)) := hown
        have hg3 := (hown.lt g rfl).2
        clear hp hown
        go_wp2_with fail
        go_loopw [11] (fun si wx => ∃ k : Nat, k ≤ i ∧ si = .int .i64 k ∧ Below w3.heap.size w3 wx) (fun si _ => i - (intOf si).toNat)
        case atStart => exact ⟨0, by omega, rfl, Below.refl _ _⟩
        case round =>
          obtain ⟨wo, rfl⟩ : ∃ wo : World, wo = wr := ⟨_, rfl⟩
          obtain ⟨k, hki, rfl, hbx⟩ := hrel
          by_cases hlt : k < i
          · have c1 := (hbx.cell (p := ⟨w.heap.size, k, none⟩) (by show w.heap.size < w3.heap.size; omega)).trans (HD1.out k hlt)
            have c2 := (hbx.cell (p := ⟨g2, k, none⟩) (by show g2 < w3.heap.size; omega)).trans (HD2.out k hlt)
            have hk1 : (k : Int) < i := by omega
            have hk0 : (0 : Int) ≤ k := by omega
            go_wp2_with fail
            go_quiet (fail)
            go_wp2
            go_roundw
            case rel => exact ⟨k + 1, by omega, by go_num, below_drewN hbx _⟩
            case measure => simp [intOf]; omega
          · go_wp2_with fail
            have hs4 := hbx.size
            refine (parser_any g2 i T wo hTl hn (by omega) (fun j hj => (hbx.cell (p := ⟨g2, j, none⟩) (by show g2 < w3.heap.size; omega)).trans (HD2.out j hj))).mono ?_
            rintro e w4 ⟨hb4, hp4⟩
            rcases hp4 with ⟨hp4, _⟩ | ⟨ops4, g4, c4, hp4, rfl, hown4⟩
            · rw [HP.out] at hp4
              cases hp4
            · obtain rfl : ops = ops4 := Option.some.inj (HP.out.symm.trans hp4)
              have he := fun wx => Lib.run_eql_slice_nil (P := Ybcv.prog) wx 30 24 (some ⟨g, 0, none⟩) ops.length c 0 0 Ybcv.underlying30
              have HO4 : Hid (w4.ownsRow wo.heap.size 24 3 (.slice (some ⟨g4, 0, none⟩) ops.length c4) ops.length (opsC ops)) := hown4
              have HO' : Hid (w4.ownsRow wr.heap.size 24 3 (.slice (some ⟨g, 0, none⟩) ops.length c) ops.length (opsC ops)) := own_below (own_below HO.out hbx (fun k hk => by simp [Value.ownBlock] at hk; omega)) hb4 (fun k hk => by simp [Value.ownBlock] at hk; omega)
              have hnx4 : Below w.heap.size w w4 := (hnx3.trans (hbx.mono (by omega))).trans (hb4.mono (by omega))
              have hlen := own_le hown4
              have hg4 := (hown4.lt g4 rfl).2
              have hg3' : g < w4.heap.size := by have := hb4.size; omega
              clear hp4 hown4 HO
              go_wp2
              go_loopw [14] (fun si wx => ∃ k : Nat, k ≤ ops.length ∧ si = .int .i64 k ∧ Below w4.heap.size w4 wx) (fun si _ => ops.length - (intOf si).toNat)
              case atStart => exact ⟨0, by omega, rfl, Below.refl _ _⟩
              case round =>
                obtain ⟨wp, rfl⟩ : ∃ wp : World, wp = wr := ⟨_, rfl⟩
                obtain ⟨m, hmo, rfl, hbm⟩ := hrel
                by_cases hlt2 : m < ops.length
                · obtain ⟨d0, d1, d2⟩ := own_op HO'.out m hlt2
                  obtain ⟨e0, e1, e2⟩ := own_op HO4.out m hlt2
                  obtain ⟨⟨p, q, r⟩, hpq⟩ : ∃ t, t = ops[m] := ⟨_, rfl⟩
                  rw [← hpq] at d0 d1 d2 e0 e1 e2
                  have c0 := (hbm.cell (p := ⟨g, m * 3, none⟩) hg3').trans d0
                  have c1 := (hbm.cell (p := ⟨g, m * 3 + 1, none⟩) hg3').trans d1
                  have c2 := (hbm.cell (p := ⟨g, m * 3 + 2, none⟩) hg3').trans d2
                  have c3 := (hbm.cell (p := ⟨g4, m * 3, none⟩) hg4).trans e0
                  have c4 := (hbm.cell (p := ⟨g4, m * 3 + 1, none⟩) hg4).trans e1
                  have c5 := (hbm.cell (p := ⟨g4, m * 3 + 2, none⟩) hg4).trans e2
                  have hm1 : (m : Int) < ops.length := by omega
                  have hm0 : (0 : Int) ≤ m := by omega
                  have hne := neq24 p q r
                  clear d0 d1 d2 e0 e1 e2 hpq
                  go_wp2_with fail
                  go_quiet (fail)
                  go_wp2
                  go_roundw
                  case rel => exact ⟨m + 1, by omega, by go_num, below_drewN hbm _⟩
                  case measure => simp [intOf]; omega
                · go_wp2
                  go_ret
                  exact ⟨rfl, hnx4.trans (hbm.mono (by have := hnx4.size; omega))⟩

theorem qac_long (a0 : Option Addr) (n cap : Nat) (raw : Bool) (w : World) (hn : 4096 < n) :
    Calls Ybcv.prog 4 #[.slice a0 n cap, .bool raw] w fun e w' => e = .returned (.bool true) ∧ Below w.heap.size w w' := by
  have hn' : (4096 : Int) < n := by omega
  go_enter Ybcv.func4, Ybcv.ntmps4
  go_wp2
  go_ret
  exact ⟨rfl, Below.refl _ _⟩
end Go.Proofs.Ymwhbc

/-
  THE WALK OF 'LawS930020QABWhole'.
-/
import Derived.Test.YmwhbcApply
import Derived.WalkSpells
import Derived.Deep.RegionHeld3
import Derived.Deep.DeepCutAuto
import Derived.Laws.CopyOwn
namespace Go.Proofs.Ymwhbc
open Go.RowKit

/-- A row of bytes of the call's own, known whole. -/
theorem own_block {w : World} {B g n : Nat} {xs : List Value} (h : w.ownsRow B 5 1 (.slice (some ⟨g, 0, none⟩) n n) n xs) : w.heap[g]? = some (.cells xs.toArray 5 (0, 0)) ∧ xs.length = n := by
  have hl : xs.length = n := by simpa using h.1
  rcases h.2 with ⟨h', _⟩ | ⟨g', cap', cur, h', _, hg, _, _, hcs, htake⟩
  · simp at h'
  · simp only [Value.slice.injEq, Option.some.injEq, Addr.mk.injEq, and_true, true_and] at h'
    obtain ⟨rfl, rfl⟩ := h'
    refine ⟨?_, hl⟩
    rw [hg, ← htake, List.take_of_length_le (by simp [hcs])]

theorem splice_all {α : Type} (L cs : List α) (h : cs.length = L.length) : splice L 0 cs = cs := by
  unfold splice
  rw [List.take_zero, List.nil_append, Nat.zero_add, List.drop_of_length_le (by omega), List.append_nil]

/-- The cells of a block of bytes that is known whole. -/
theorem block_cell {w : World} {g : Nat} {A : List Int} (h : w.heap[g]? = some (.cells (A.map (Value.int .u8)).toArray 5 (0, 0))) (j : Nat) (hj : j < A.length) : w.cell? ⟨g, j, none⟩ = some (.int .u8 (A.getD j 0)) := by
  rw [cell_of_row w g j _ 5 (0, 0) h]
  simp [List.getD, hj]

theorem map_cell {w : World} {b off : Nat} {A : List Int} (hc : ∀ j, j < A.length → w.cell? ⟨b, off + j, none⟩ = some (.int .u8 (A.getD j 0))) : ∀ j v, (A.map (Value.int .u8))[j]? = some v → w.cell? ((⟨b, off, none⟩ : Addr).add j) = some v := by
  intro j v hv
  have hj : j < A.length := by
    have := (List.getElem?_eq_some_iff.1 hv).1
    simpa using this
  rw [Addr.add_lit, hc j hj, ← hv]
  simp [List.getD, hj]

theorem size5 : (Ybcv.prog.info? 5).map (·.size) = some 1 := by kernel_rfl

theorem Bytes.kept {w w' : World} {B g c : Nat} {O : List Int} {row : Nat} (h : Bytes w B g c O) (hg : w.grownBy w' (some row)) (hne : g ≠ row) : Bytes w' B g c O :=
  World.ownsRow.kept h hg (.inr (by simpa [Value.ownBlock] using hne))
theorem Bytes.alloc {w : World} {B g c : Nat} {O : List Int} (h : Bytes w B g c O) (o : Obj) : Bytes (w.alloc o) B g c O := World.ownsRow.alloc h o

set_option maxRecDepth 100000 in
set_option maxHeartbeats 3200000 in
theorem qab_any (sa aa : Option Addr) (bs os ls cs ba oa la ca : Nat) (KK : Nat → Int × Int × Int) (A : List Int) (w : World) (hls : ls ≤ 1024) (hla : la ≤ 1024) (hA : A.length = la)
    (hsa : 0 < ls → sa = some ⟨bs, os, none⟩) (hbs : 0 < ls → bs < w.heap.size) (haa : 0 < la → aa = some ⟨ba, oa, none⟩) (hba : 0 < la → ba < w.heap.size)
    (hcs : ∀ i, i < ls → w.cell? ⟨bs, os + i * 3, none⟩ = some (.int .u8 (KK i).1) ∧ w.cell? ⟨bs, os + i * 3 + 1, none⟩ = some (.int .u8 (KK i).2.1) ∧ w.cell? ⟨bs, os + i * 3 + 2, none⟩ = some (.int .u8 (KK i).2.2))
    (hK : ∀ i, i < ls → (0 ≤ (KK i).1 ∧ (KK i).1 ≤ 255) ∧ (0 ≤ (KK i).2.1 ∧ (KK i).2.1 ≤ 255) ∧ (0 ≤ (KK i).2.2 ∧ (KK i).2.2 ≤ 255))
    (hca : ∀ j, j < la → w.cell? ⟨ba, oa + j, none⟩ = some (.int .u8 (A.getD j 0))) :
    Calls Ybcv.prog 5 #[.slice sa ls cs, .slice aa la ca] w fun e w' => e = .returned (.bool true) ∧ Below w.heap.size w w' := by
  obtain ⟨i5, hi5, hy0, hy1, hy2⟩ := info_parts info5
  obtain ⟨i0, hi, hz0, hz1, hz2⟩ := info_parts info24
  have hls' : (ls : Int) ≤ 1024 := by omega
  have hla' : (la : Int) ≤ 1024 := by omega
  have HCS : Hid (∀ i, i < ls → w.cell? ⟨bs, os + i * 3, none⟩ = some (.int .u8 (KK i).1) ∧ w.cell? ⟨bs, os + i * 3 + 1, none⟩ = some (.int .u8 (KK i).2.1) ∧ w.cell? ⟨bs, os + i * 3 + 2, none⟩ = some (.int .u8 (KK i).2.2)) := hcs
  have HK : Hid (∀ i, i < ls → (0 ≤ (KK i).1 ∧ (KK i).1 ≤ 255) ∧ (0 ≤ (KK i).2.1 ∧ (KK i).2.1 ≤ 255) ∧ (0 ≤ (KK i).2.2 ∧ (KK i).2.2 ≤ 255)) := hK
  have HCA : Hid (∀ j, j < la → w.cell? ⟨ba, oa + j, none⟩ = some (.int .u8 (A.getD j 0))) := hca
  have HA : Hid (A.length = la) := hA
  clear hcs hK hca hA
  have tok1 : True := trivial
  go_enter Ybcv.func5, Ybcv.ntmps5
  go_wp2_with (first
    | (at_make; have _t := tok1; refine wpList_make_own _ rfl _ _ 30 rfl (w.heap.size + 1) 24 i0 (.agg #[.int .u8 0, .int .u8 0, .int .u8 0]) 3 Ybcv.underlying30 hi hz0 hz1 _ _ _ (ls + la) rfl rfl (by omega) (by rw [hz2]; omega) (by unfold maxLen; omega) (by simp) ?_; intro w1 hown1 hgrow1; clear tok1))
  have k0 : w1.cell? ⟨w.heap.size, 0, none⟩ = some (.int .u8 61) := hgrow1.cell (by simp) (by simp)
  have k1 : w1.cell? ⟨w.heap.size, 1, none⟩ = some (.int .u8 126) := hgrow1.cell (by simp) (by simp)
  have k2 : w1.cell? ⟨w.heap.size, 2, none⟩ = some (.int .u8 43) := hgrow1.cell (by simp) (by simp)
  have k3 : w1.cell? ⟨w.heap.size, 3, none⟩ = some (.int .u8 45) := hgrow1.cell (by simp) (by simp)
  have hb1 : Below w.heap.size w w1 := ((Below.refl _ _).alloc (Nat.le_refl _) _).grown hgrow1 (by simp) (fun k h => by cases h)
  obtain ⟨gs, hgs⟩ : ∃ gs, gs = w.heap.size + 1 := ⟨_, rfl⟩
  simp only [World.size_alloc] at hown1
  rw [← hgs] at hown1 ⊢
  have hgs1 : w.heap.size < gs := by omega
  have hgs2 : gs < w1.heap.size := (hown1.lt gs rfl).2
  have HO1 : Hid (w1.ownsRow gs 24 3 (.slice (some ⟨gs, 0, none⟩) 0 (ls + la)) 0 []) := hown1
  clear hgs hgrow1 hown1
  go_loopg [39, 6, 7] ls (fun gk si s6 s7 wr => ∃ (i p : Nat) (S : List (Int × Int × Int)), i ≤ ls ∧ gk = ls - i ∧ p ≤ i ∧ S.length = i ∧ si = .int .i64 i ∧ s7 = .int .i64 p ∧ s6 = .slice (some ⟨gs, 0, none⟩) S.length (ls + la) ∧
      wr.ownsRow gs 24 3 (.slice (some ⟨gs, 0, none⟩) S.length (ls + la)) S.length (opsC S) ∧ Below gs w1 wr)
  case atStart => exact ⟨0, 0, [], by omega, by omega, by omega, rfl, rfl, rfl, rfl, HO1.out, Below.refl _ _⟩
  case round =>
    obtain ⟨i, p, S, hil, rfl, hpi, hSi, rfl, rfl, rfl, hown, hnx⟩ := hrel
    have HO : Hid (wr.ownsRow gs 24 3 (.slice (some ⟨gs, 0, none⟩) S.length (ls + la)) S.length (opsC S)) := hown
    have HSi : Hid (S.length = i) := hSi
    have hSi' : S.length ≤ i := by omega
    clear hown hSi HO1
    have hsz := hnx.size
    by_cases hlt : i < ls
    · obtain rfl := hsa (by omega)
      obtain ⟨d0, d1, d2⟩ := HCS.out i hlt
      obtain ⟨hk, ho, hn⟩ := HK.out i hlt
      obtain ⟨⟨K, O, N⟩, hKON⟩ : ∃ t, t = KK i := ⟨_, rfl⟩
      rw [← hKON] at d0 d1 d2 hk ho hn
      have hbs' := hbs (by omega)
      have c0 := (hnx.cell (p := ⟨bs, os + i * 3, none⟩) (by show bs < gs; omega)).trans ((hb1.cell (p := ⟨bs, os + i * 3, none⟩) hbs').trans d0)
      have c1 := (hnx.cell (p := ⟨bs, os + i * 3 + 1, none⟩) (by show bs < gs; omega)).trans ((hb1.cell (p := ⟨bs, os + i * 3 + 1, none⟩) hbs').trans d1)
      have c2 := (hnx.cell (p := ⟨bs, os + i * 3 + 2, none⟩) (by show bs < gs; omega)).trans ((hb1.cell (p := ⟨bs, os + i * 3 + 2, none⟩) hbs').trans d2)
      have q0 := (hnx.cell (p := ⟨w.heap.size, 0, none⟩) hgs1).trans k0
      have q1 := (hnx.cell (p := ⟨w.heap.size, 1, none⟩) hgs1).trans k1
      have q2 := (hnx.cell (p := ⟨w.heap.size, 2, none⟩) hgs1).trans k2
      have q3 := (hnx.cell (p := ⟨w.heap.size, 3, none⟩) hgs1).trans k3
      have hi1 : (i : Int) < ls := by omega
      have hwr : w.heap.size < wr.heap.size := by omega
      have hbr : bs < wr.heap.size := by omega
      obtain ⟨hk0, hk1⟩ := hk
      obtain ⟨ho0, ho1⟩ := ho
      obtain ⟨hn0, hn1⟩ := hn
      clear d0 d1 d2 hKON k0 k1 k2 k3 hsa hbs
      go_upto_if 48 with (fail)
      go_cut [10] (fun s10 wx => wx = wr.alloc (.cells #[.int .u8 K, .int .u8 O, .int .u8 N] 24) ∧ ∃ k : Int, s10 = .int .u8 k)
      case first =>
        rcases (show K % 5 = 0 ∨ K % 5 = 1 ∨ K % 5 = 2 ∨ K % 5 = 3 ∨ K % 5 = 4 by omega) with h5 | h5 | h5 | h5 | h5
        all_goals
          go_wp2
          go_meet
          case rel => exact ⟨rfl, _, rfl⟩
      case rest =>
        obtain ⟨rfl, k, rfl⟩ := hcut
        clear c0 c1 c2 q0 q1 q2 q3
        go_upto_region 14 with (fail)
        go_cut [71, 10] (fun s71 s10 wx => wx = wr.alloc (.cells #[.int .u8 K, .int .u8 O, .int .u8 N] 24) ∧ ∃ (t : Bool) (k' : Int), s10 = .int .u8 k' ∧ s71 = .bool t ∧ (t = true → p < la))
        case first =>
          go_wp2
          all_goals
            go_meet
            case rel => exact ⟨rfl, _, _, rfl, rfl, by intro h; first | omega | (exfalso; simp at h; done) | (simp at h; omega)⟩
        case rest =>
          obtain ⟨rfl, t1, k71, rfl, rfl, ht1⟩ := hcut
          go_upto_if 71 with (fail)
          go_cut [11] (fun s11 wx => wx = wr.alloc (.cells #[.int .u8 K, .int .u8 O, .int .u8 N] 24) ∧ ∃ o : Int, s11 = .int .u8 o)
          case first =>
            cases t1 with
            | false =>
              go_wp2
              go_meet
              case rel => exact ⟨rfl, _, rfl⟩
            | true =>
              have hpl := ht1 rfl
              obtain rfl := haa (by omega)
              have hba' := hba (by omega)
              have e0 := (hnx.cell (p := ⟨ba, oa + p, none⟩) (by show ba < gs; omega)).trans ((hb1.cell (p := ⟨ba, oa + p, none⟩) hba').trans (HCA.out p hpl))
              have hbar : ba < wr.heap.size := by omega
              have hpl' : (p : Int) < la := by omega
              clear ht1
              go_wp2
              go_meet
              case rel => exact ⟨rfl, _, rfl⟩
          case rest =>
            obtain ⟨rfl, o, rfl⟩ := hcut
            clear ht1
            go_upto_region 16 with (fail)
            go_cut [83, 10] (fun st s10 wx => wx = wr.alloc (.cells #[.int .u8 K, .int .u8 O, .int .u8 N] 24) ∧ ∃ (t : Bool) (k' : Int), s10 = .int .u8 k' ∧ st = .bool t)
            case first =>
              go_wp2
              all_goals
                go_meet
                case rel => exact ⟨rfl, _, _, rfl, rfl⟩
            case rest =>
              obtain ⟨rfl, t16, k83, rfl, rfl⟩ := hcut
              go_upto_if 83 with (fail)
              go_cut [12] (fun st wx => wx = wr.alloc (.cells #[.int .u8 K, .int .u8 O, .int .u8 N] 24) ∧ ∃ x : Int, st = .int .u8 x)
              case first =>
                cases t16
                all_goals
                  go_wp2
                  go_meet
                  case rel => exact ⟨rfl, _, rfl⟩
              case rest =>
                obtain ⟨rfl, n1, rfl⟩ := hcut
                go_upto_region 18 with (fail)
                go_cut [92, 10] (fun st s10 wx => wx = wr.alloc (.cells #[.int .u8 K, .int .u8 O, .int .u8 N] 24) ∧ ∃ (t : Bool) (k' : Int), s10 = .int .u8 k' ∧ st = .bool t)
                case first =>
                  go_wp2
                  all_goals
                    go_meet
                    case rel => exact ⟨rfl, _, _, rfl, rfl⟩
                case rest =>
                  obtain ⟨rfl, t18, k92, rfl, rfl⟩ := hcut
                  go_upto_if 92 with (fail)
                  go_cut [11] (fun st wx => wx = wr.alloc (.cells #[.int .u8 K, .int .u8 O, .int .u8 N] 24) ∧ ∃ x : Int, st = .int .u8 x)
                  case first =>
                    cases t18
                    all_goals
                      go_wp2
                      go_meet
                      case rel => exact ⟨rfl, _, rfl⟩
                  case rest =>
                    obtain ⟨rfl, o1, rfl⟩ := hcut
                    go_upto_region 20 with (fail)
                    go_cut [100, 10] (fun st s10 wx => wx = wr.alloc (.cells #[.int .u8 K, .int .u8 O, .int .u8 N] 24) ∧ ∃ (t : Bool) (k' : Int), s10 = .int .u8 k' ∧ st = .bool t)
                    case first =>
                      go_wp2
                      all_goals
                        go_meet
                        case rel => exact ⟨rfl, _, _, rfl, rfl⟩
                    case rest =>
                      obtain ⟨rfl, t20, k100, rfl, rfl⟩ := hcut
                      go_upto_if 100 with (fail)
                      go_cut [12] (fun st wx => wx = wr.alloc (.cells #[.int .u8 K, .int .u8 O, .int .u8 N] 24) ∧ ∃ x : Int, st = .int .u8 x)
                      case first =>
                        cases t20
                        all_goals
                          go_wp2
                          go_meet
                          case rel => exact ⟨rfl, _, rfl⟩
                      case rest =>
                        obtain ⟨rfl, n2, rfl⟩ := hcut
                        go_upto_if 102 with (fail)
                        go_cut [7, 10] (fun st s10 wx => wx = wr.alloc (.cells #[.int .u8 K, .int .u8 O, .int .u8 N] 24) ∧ ∃ (p' : Nat) (k' : Int), s10 = .int .u8 k' ∧ p' ≤ i + 1 ∧ st = .int .i64 p')
                        case first =>
                          go_wp2
                          · go_meet
                            case rel => exact ⟨rfl, p + 1, _, rfl, by omega, by go_num⟩
                          · go_meet
                            case rel => exact ⟨rfl, p, _, rfl, by omega, rfl⟩
                        case rest =>
                          obtain ⟨rfl, p', k7, rfl, hp', rfl⟩ := hcut
                          go_wp2_with (at_builtin; refine wpList_append_fits _ rfl (.tmp 105) (.tmp 110) 30 rfl gs 24 i0 3 Ybcv.underlying30 hi hz1 gs S.length (ls + la) (opsC S) rfl ((HO.out.alloc _).alloc _) ⟨wr.heap.size + 1, 0, none⟩ 1 1 _ rfl rfl (news3 _ _ (by simp) _ _ _ _) (three_one _ _ _) (by omega) ?_; intro w2 hown2 hgrow2)
                          have R := rel_push ((HO.out.alloc _).alloc _) ((hnx.alloc (by omega) _).alloc (by simp; omega) _) (by simp; omega) hown2 hgrow2
                          clear hown2 hgrow2
                          go_roundg (ls - (i + 1))
                          case measure => omega
                          case rel => exact ⟨i + 1, p', S ++ [(k7, o1, n2)], by omega, rfl, hp', by simp [HSi.out], by go_num, rfl, by simp, R.1, R.2⟩
    · have hSl : S.length ≤ ls := by omega
      obtain rfl : ls = i := by omega
      clear hlt HSi hSi' k0 k1 k2 k3
      obtain ⟨wa, rfl⟩ : ∃ wa : World, wa = wr := ⟨_, rfl⟩
      go_upto_if 116 with (fail)
      go_cut [6, 7, 116] (fun s6 _ _ wx => ∃ (T : List (Int × Int × Int)) (g c : Nat), s6 = .slice (some ⟨g, 0, none⟩) T.length c ∧ T.length ≤ ls + la ∧ wx.ownsRow gs 24 3 (.slice (some ⟨g, 0, none⟩) T.length c) T.length (opsC T) ∧ Below gs w1 wx)
      case first =>
        cases h2 : ((ls : Int) % 2 == 0) with
        | true =>
          go_wp2
          go_loopg [6, 7] (la - p) (fun gk s6 s7 wx => ∃ (q : Nat) (T : List (Int × Int × Int)) (g c : Nat), gk = la - q ∧ q ≤ ls + la ∧ s7 = .int .i64 q ∧ s6 = .slice (some ⟨g, 0, none⟩) T.length c ∧ T.length ≤ ls + q ∧ T.length ≤ ls + la ∧ wx.ownsRow gs 24 3 (.slice (some ⟨g, 0, none⟩) T.length c) T.length (opsC T) ∧ Below gs w1 wx)
          case atStart => exact ⟨p, S, gs, ls + la, rfl, by omega, rfl, rfl, by omega, by omega, HO.out, hnx⟩
          case round =>
            clear hnx HO
            obtain ⟨q, T, g, c, rfl, hqb, rfl, rfl, hT1, hT2, hown, hnx⟩ := hrel
            by_cases hq : q < la
            · obtain rfl := haa (by omega)
              have hba' := hba (by omega)
              have hsz := hnx.size
              have e0 := (hnx.cell (p := ⟨ba, oa + q, none⟩) (by show ba < gs; omega)).trans ((hb1.cell (p := ⟨ba, oa + q, none⟩) hba').trans (HCA.out q hq))
              obtain ⟨x, hx⟩ : ∃ x, x = A.getD q 0 := ⟨_, rfl⟩
              rw [← hx] at e0
              have hq1 : (q : Int) < la := by omega
              have hq0 : (0 : Int) ≤ q := by omega
              have hgb : ba ≠ g := by have := hown.lt g rfl; omega
              have hbar : ba < wr.heap.size := by omega
              clear hx
              go_wp2_with fail
              go_region_held3 (fun w' => w'.cell? ⟨ba, oa + q, none⟩ = some (.int .u8 x))
                (first
                  | go_keep
                  | (rw [hgrow1.cell_far _ (by simp; omega) (by simp [Value.ownBlock]; exact hgb)]; assumption))
                ((refine step_append_lies _ (by rfl) _ _ _ (by rfl) gs 24 i0 _ 3 3 Ybcv.underlying30 hi hz0 hz1 hz2 rfl (by omega) (.slice (some ⟨g, 0, none⟩) T.length c) T.length (opsC T) (by rfl) ((hown.alloc _).drew)
                    ⟨wr.heap.size, 0, none⟩ 1 1 [.int .u8 61, .int .u8 x, .int .u8 x] (by rfl) (by rfl) (World.news_of_block (cs := #[.int .u8 61, .int .u8 x, .int .u8 x]) (t := 24) (fr := (0, 0)) (heap_alloc_new wr _)) (three_one _ _ _)
                    (by omega) (by unfold maxLen; omega) (by omega) (by simp; omega) (wr.heap.size + 1) (by simp) ?_; intro g1 c1 w2 hown1 hgrow1 hat1 hlt1))
              have R := rel_push ((hown.alloc _).drew) ((hnx.alloc (by omega) _).drew) (by simp; omega) hown1 hgrow1
              clear hat1 hlt1 hown1 hgrow1 hown
              go_wp2
              go_roundg (la - (q + 1))
              case measure => omega
              case rel => exact ⟨q + 1, T ++ [(61, x, x)], g1, c1, rfl, by omega, by go_num, by simp, by simp; omega, by simp; omega, R.1, R.2⟩
            · have hq' : ¬ (q : Int) < la := by omega
              go_wp2
              go_meet
              case rel => exact ⟨T, g, c, rfl, hT2, hown, hnx⟩
        | false =>
          go_wp2
          go_meet
          case rel => exact ⟨S, gs, ls + la, rfl, by omega, HO.out, hnx⟩
      case rest =>
        clear hnx HO hsz
        obtain ⟨wd, rfl⟩ : ∃ wd : World, wd = wc := ⟨_, rfl⟩
        obtain ⟨T, g, c, rfl, hTl, hown, hnx⟩ := hcut
        have hgT := (hown.lt g rfl)
        have hsz := hnx.size
        have HT : Hid (wd.ownsRow gs 24 3 (.slice (some ⟨g, 0, none⟩) T.length c) T.length (opsC T)) := hown
        have HCA' : Hid (∀ j, j < la → wd.cell? ⟨ba, oa + j, none⟩ = some (.int .u8 (A.getD j 0))) := fun j hj => by
          have hb' := hba (by omega)
          exact (hnx.cell (p := ⟨ba, oa + j, none⟩) (by show ba < gs; omega)).trans ((hb1.cell (p := ⟨ba, oa + j, none⟩) hb').trans (HCA.out j hj))
        have hbc : 0 < la → ba < wd.heap.size := fun h => by have := hba h; omega
        have hnw : Below w.heap.size w wd := hb1.trans (hnx.mono (by omega))
        have hgT2 := hgT.2
        clear hown HCA hnx hb1 hba HCS HK hsa hbs hgT hpi hSl
        go_upto_if 136 with (fail)
        go_cut [13, 136] (fun s13 _ wx => ∃ (ax : Option Addr) (gx cx : Nat), s13 = .slice ax la cx ∧ (0 < la → ax = some ⟨gx, 0, none⟩ ∧ gx < wx.heap.size) ∧ (∀ j, j < la → wx.cell? ⟨gx, j, none⟩ = some (.int .u8 (A.getD j 0))) ∧ Below wd.heap.size wd wx)
        case first =>
          cases aa with
          | none =>
            have hl0 : la = 0 := by
              rcases Nat.eq_zero_or_pos la with h | h
              · exact h
              · have := haa h; cases this
            subst hl0
            go_wp2
            go_meet
            case rel => exact ⟨none, 0, 0, rfl, fun h => by omega, fun j hj => by omega, Below.refl _ _⟩
          | some xa =>
            go_upto_region 33 with (at_make; refine wpList_make_full _ rfl (.tmp 138) (.tmp 138) 28 rfl wd.heap.size 5 i5 (.int .u8 0) 1 Ybcv.underlying28 hi5 hy0 hy1 _ _ _ _ la rfl rfl rfl rfl (by rw [hy2]; omega) (by unfold maxLen; omega) (Nat.le_refl _) ?_; intro w3 hown3 hgrow3)
            have hb3 : Below wd.heap.size wd w3 := (Below.refl _ _).grown hgrow3 (Nat.le_refl _) (fun k h => by cases h)
            obtain ⟨xs, hxs⟩ : ∃ xs, xs = (madeCells (Value.int .u8 0).cells (la * 1)).toList := ⟨_, rfl⟩
            rw [← hxs] at hown3
            obtain ⟨hblk, hxl⟩ := own_block hown3
            obtain ⟨cc, hcc⟩ : ∃ cc, cc = A.map (Value.int .u8) := ⟨_, rfl⟩
            have HBL : Hid (w3.heap[wd.heap.size]? = some (.cells xs.toArray 5 (0, 0))) := hblk
            have HXL : Hid (xs.length = la) := hxl
            have HCC : Hid (cc = A.map (Value.int .u8)) := hcc
            have hccl : Hid (cc.length = la) := by show cc.length = la; rw [hcc, List.length_map]; exact HA.out
            have hgx : wd.heap.size < w3.heap.size := (hown3.lt wd.heap.size rfl).2
            clear hxs hown3 hgrow3 hblk hxl hcc
            go_wp2_with (refine wpList_copy_splice rfl (.tmp 140) (.tmp 141) 28 28 rfl 5 Ybcv.underlying28 size5 _ _ _ _ _ _ rfl rfl wd.heap.size 0 xs 5 HBL.out cc ?_ ?_ ?_ ?_ wd.heap.size wd hb3 (Nat.le_refl _) ?_)
            · rw [hccl.out]; simp
            · intro h0
              rw [hccl.out] at h0
              have hxa : xa = ⟨ba, oa, none⟩ := Option.some.inj (haa h0)
              subst hxa
              rw [HCC.out]
              exact map_cell (fun j hj => (hb3.cell (p := ⟨ba, oa + j, none⟩) (hbc h0)).trans (HCA'.out j (by rw [HA.out] at hj; exact hj)))
            · rw [hccl.out, HXL.out]; omega
            · rw [HCC.out]; exact ints_oneCell _ _
            · intro w4 hblk4 hb4
              have HB4 : Hid (w4.heap[wd.heap.size]? = some (.cells (A.map (Value.int .u8)).toArray 5 (0, 0))) := by
                have h4 := hblk4.out
                rw [splice_all _ _ (by rw [hccl.out, HXL.out]), HCC.out] at h4
                exact h4
              clear hblk4
              go_wp2
              go_meet
              case rel => exact ⟨some ⟨wd.heap.size, 0, none⟩, wd.heap.size, la, rfl, fun _ => ⟨rfl, lt_of_block HB4.out⟩, fun j hj => block_cell HB4.out j (by rw [HA.out]; exact hj), hb4⟩
        case rest =>
          obtain ⟨ax, gx, cx, rfl, hgx, hcx, hnx⟩ := hcut
          have hszc := hnx.size
          have HT' : Hid (wc.ownsRow gs 24 3 (.slice (some ⟨g, 0, none⟩) T.length c) T.length (opsC T)) := own_below HT.out hnx (fun k hk => by simp [Value.ownBlock] at hk; omega)
          have RA : Hid (Reads wc aa la A) := ⟨HA.out, fun h => ⟨ba, oa, haa h, by have := hbc h; omega, fun j hj => (hnx.cell (p := ⟨ba, oa + j, none⟩) (hbc h)).trans (HCA'.out j hj)⟩⟩
          have RX : Hid (Reads wc ax la A) := ⟨HA.out, fun h => ⟨gx, 0, (hgx h).1, (hgx h).2, fun j hj => by rw [Nat.zero_add]; exact hcx j hj⟩⟩
          have HGX : Hid (0 < la → ax = some ⟨gx, 0, none⟩ ∧ gx < wc.heap.size) := hgx
          have HCX : Hid (∀ j, j < la → wc.cell? ⟨gx, j, none⟩ = some (.int .u8 (A.getD j 0))) := hcx
          have hnwc : Below w.heap.size w wc := hnw.trans (hnx.mono (by have := hnw.size; omega))
          clear hgx hcx haa hbc HCA' HT hnw
          go_wp2_with fail
          refine (apply_any g c gs T ax gx la cx A wc HT'.out (by omega) HA.out (by omega) (fun h => (HGX.out h).1) (fun h => (HGX.out h).2) HCX.out).mono ?_
          rintro e w4 ⟨hb4, hp⟩
          obtain ⟨gv, ok, rfl, hq⟩ : ∃ gv ok, e = .returned (.tuple #[gv, .bool ok]) ∧ Hid ((res T A = none ∧ gv = .slice none 0 0 ∧ ok = false) ∨ ∃ O g' c', res T A = some O ∧ gv = .slice (some ⟨g', 0, none⟩) O.length c' ∧ ok = true ∧ Bytes w4 wc.heap.size g' c' O) := by
            rcases hp with ⟨h1, h2⟩ | ⟨O, g', c', h1, h2, h3⟩
            · exact ⟨_, _, h2, .inl ⟨h1, rfl, rfl⟩⟩
            · exact ⟨_, _, h2, .inr ⟨O, g', c', h1, rfl, rfl, h3⟩⟩
          have hsz4 := hb4.size
          have HT4 : Hid (w4.ownsRow gs 24 3 (.slice (some ⟨g, 0, none⟩) T.length c) T.length (opsC T)) := own_below HT'.out hb4 (fun k hk => by simp [Value.ownBlock] at hk; omega)
          have RA4 : Hid (Reads w4 aa la A) := RA.out.below hb4 (Nat.le_refl _)
          have RX4 : Hid (Reads w4 ax la A) := RX.out.below hb4 (Nat.le_refl _)
          have hnw4 : Below w.heap.size w w4 := hnwc.trans (hb4.mono (by have := hnwc.size; omega))
          have hg4 : g < w4.heap.size := by omega
          clear hp HT' RA RX HGX HCX hnwc
          have tok2 : True := trivial
          have tok3 : True := trivial
          go_wp2_with (first
            | (at_make; have _t := tok2; refine wpList_make_own _ rfl _ (.tmp 150) 28 rfl w4.heap.size 5 i5 (.int .u8 0) 1 Ybcv.underlying28 hi5 hy0 hy1 _ _ _ T.length rfl rfl rfl (by rw [hy2]; omega) (by unfold maxLen; omega) (Nat.le_refl _) ?_; intro w5 hown5 hgrow5; clear tok2; have hsz5 := (hown5.lt w4.heap.size rfl).2)
            | (at_make; have _t := tok3; refine wpList_make_own _ rfl _ (.tmp 153) 28 rfl w4.heap.size 5 i5 (.int .u8 0) 1 Ybcv.underlying28 hi5 hy0 hy1 _ _ _ T.length rfl rfl rfl (by rw [hy2]; omega) (by unfold maxLen; omega) (by omega) ?_; intro w6 hown6 hgrow6; clear tok3))
          have BR : Hid (Bytes w6 w4.heap.size w4.heap.size T.length []) := World.ownsRow.kept hown5 hgrow6 (.inr (by simp [Value.ownBlock]))
          have BO : Hid (Bytes w6 w4.heap.size w5.heap.size T.length []) := hown6
          have hb6 : Below w4.heap.size w4 w6 := ((Below.refl _ _).grown hgrow5 (Nat.le_refl _) (fun k h => by cases h)).grown hgrow6 (by omega) (fun k h => by cases h)
          clear hown5 hown6 hgrow5 hgrow6
          obtain ⟨gO, hgO⟩ : ∃ gO, gO = w5.heap.size := ⟨_, rfl⟩
          rw [← hgO] at BO hsz5 ⊢
          clear hgO
          go_loopg [157, 16, 17, 18] T.length (fun gk si s16 s17 s18 wr => ∃ (i : Nat) (v : Bool) (R O : List Int), i ≤ T.length ∧ gk = T.length - i ∧ R.length ≤ i ∧ O.length ≤ i ∧ si = .int .i64 i ∧ s16 = .bool v ∧ s17 = .slice (some ⟨w4.heap.size, 0, none⟩) R.length T.length ∧ s18 = .slice (some ⟨gO, 0, none⟩) O.length T.length ∧
              v = allV (T.take i) ∧ R = reads (T.take i) ∧ O = outs (T.take i) ∧ Bytes wr w4.heap.size w4.heap.size T.length R ∧ Bytes wr w4.heap.size gO T.length O ∧ Below w4.heap.size w4 wr)
          case atStart => exact ⟨0, true, [], [], by omega, by omega, by simp, by simp, rfl, rfl, rfl, rfl, by simp [allV], by simp [reads], by simp [outs], BR.out, BO.out, hb6⟩
          case round =>
            clear BR BO hb6
            obtain ⟨i, v, R, O, hiT, rfl, hRl, hOl, rfl, rfl, rfl, rfl, hv, hR, hO, hbR, hbO, hnr⟩ := hrel
            have HV : Hid (v = allV (T.take i)) := hv
            have HR : Hid (R = reads (T.take i)) := hR
            have HO : Hid (O = outs (T.take i)) := hO
            have BR : Hid (Bytes wr w4.heap.size w4.heap.size T.length R) := hbR
            have BO : Hid (Bytes wr w4.heap.size gO T.length O) := hbO
            have hszr := hnr.size
            have hRb := (World.ownsRow.lt hbR w4.heap.size rfl).2
            have hOb := (World.ownsRow.lt hbO gO rfl).2
            clear hv hR hO hbR hbO
            by_cases hlt : i < T.length
            · obtain ⟨d0, d1, d2⟩ := own_op HT4.out i hlt
              obtain ⟨⟨k, o, n⟩, hkon⟩ : ∃ t, t = T[i] := ⟨_, rfl⟩
              rw [← hkon] at d0 d1 d2
              have c0 := (hnr.cell (p := ⟨g, i * 3, none⟩) hg4).trans d0
              have c1 := (hnr.cell (p := ⟨g, i * 3 + 1, none⟩) hg4).trans d1
              have c2 := (hnr.cell (p := ⟨g, i * 3 + 2, none⟩) hg4).trans d2
              have HK : Hid (T[i] = (k, o, n)) := hkon.symm
              have hi1 : (i : Int) < T.length := by omega
              have hgr : g < wr.heap.size := by omega
              clear d0 d1 d2 hkon
              go_upto_if 163 with (go_at_call 13; refine (valid2_any _ _ _ _).mono ?_; rintro e w' ⟨rfl, rfl⟩)
              go_cut [16, 163] (fun s16 _ wx => wx = (wr.alloc (.cells #[.int .u8 k, .int .u8 o, .int .u8 n] 24)).alloc (.cells #[.int .u8 k, .int .u8 o, .int .u8 n] 24) ∧ ∃ v' : Bool, s16 = .bool v' ∧ v' = (v && vld k o n))
              case first =>
                cases hv : vld k o n with
                | true =>
                  go_wp2
                  go_meet
                  case rel => exact ⟨rfl, v, rfl, by simp [hv]⟩
                | false =>
                  go_wp2
                  go_meet
                  case rel => exact ⟨rfl, false, rfl, by simp [hv]⟩
              case rest =>
                obtain ⟨rfl, v', rfl, hv'⟩ := hcut
                have HV' : Hid (v' = allV (T.take (i + 1))) := by show v' = _; rw [allV_step hlt HK.out, ← HV.out, hv']
                clear hv' HV c0 c1 c2
                by_cases h43 : k = 43
                · subst h43
                  go_wp2_with (at_builtin; refine wpList_append_fits _ rfl (.tmp 175) (.tmp 178) 28 rfl w4.heap.size 5 i5 1 Ybcv.underlying28 hi5 hy1 gO O.length T.length (O.map (Value.int .u8)) rfl (((BO.out.alloc _).alloc _).alloc _).own ⟨wr.heap.size + 1 + 1, 0, none⟩ 1 1 [.int .u8 n] rfl rfl (news1 _ _ (by simp) _ _) (one_one _) (by omega) ?_; intro w8 hown8 hgrow8)
                  have P := Bytes.push (((BO.out.alloc _).alloc _).alloc _) (((hnr.alloc hszr _).alloc (by simp; omega) _).alloc (by simp; omega) _) (by simp; omega) hown8 hgrow8
                  have Q := (((BR.out.alloc _).alloc _).alloc _).kept hgrow8 (by omega)
                  clear hown8 hgrow8
                  go_roundg (T.length - (i + 1))
                  case measure => omega
                  case rel => exact ⟨i + 1, v', R, O ++ [n], by omega, rfl, by omega, by simp; omega, by go_num, rfl, rfl, by simp, HV'.out, by rw [reads_no hlt HK.out]; exact HR.out, by rw [outs_yes hlt HK.out (by decide), HO.out], Q, P.1, P.2⟩
                · have hb43 : (k == 43) = false := by simpa using h43
                  have HN3 : Hid (¬ k = 43) := h43
                  clear h43
                  by_cases h45 : k = 45
                  · subst h45
                    go_wp2_with (at_builtin; refine wpList_append_fits _ rfl (.tmp 167) (.tmp 170) 28 rfl w4.heap.size 5 i5 1 Ybcv.underlying28 hi5 hy1 w4.heap.size R.length T.length (R.map (Value.int .u8)) rfl (((BR.out.alloc _).alloc _).alloc _).own ⟨wr.heap.size + 1 + 1, 0, none⟩ 1 1 [.int .u8 o] rfl rfl (news1 _ _ (by simp) _ _) (one_one _) (by omega) ?_; intro w7 hown7 hgrow7; have u0 : w7.cell? ⟨wr.heap.size, 0, none⟩ = some (.int .u8 45) := hgrow7.cell (by go_simp) (by simp; omega))
                    have P := Bytes.push (((BR.out.alloc _).alloc _).alloc _) (((hnr.alloc hszr _).alloc (by simp; omega) _).alloc (by simp; omega) _) (by simp; omega) hown7 hgrow7
                    have Q := (((BO.out.alloc _).alloc _).alloc _).kept hgrow7 (by omega)
                    clear hown7 hgrow7
                    go_roundg (T.length - (i + 1))
                    case measure => omega
                    case rel => exact ⟨i + 1, v', R ++ [o], O, by omega, rfl, by simp; omega, by omega, by go_num, rfl, by simp, rfl, HV'.out, by rw [reads_yes hlt HK.out HN3.out, HR.out], by rw [outs_no hlt HK.out]; exact HO.out, P.1, Q, P.2⟩
                  · have hb45 : (k == 45) = false := by simpa using h45
                    have HN5 : Hid (¬ k = 45) := h45
                    clear h45
                    go_wp2_with (first
                      | (at_builtin; refine wpList_append_fits _ rfl (.tmp 167) (.tmp 170) 28 rfl w4.heap.size 5 i5 1 Ybcv.underlying28 hi5 hy1 w4.heap.size R.length T.length (R.map (Value.int .u8)) rfl (((BR.out.alloc _).alloc _).alloc _).own ⟨wr.heap.size + 1 + 1, 0, none⟩ 1 1 [.int .u8 o] rfl rfl (news1 _ _ (by simp) _ _) (one_one _) (by omega) ?_; intro w7 hown7 hgrow7; have u0 : w7.cell? ⟨wr.heap.size, 0, none⟩ = some (.int .u8 k) := hgrow7.cell (by go_simp) (by simp; omega); have u2 : w7.cell? ⟨wr.heap.size, 2, none⟩ = some (.int .u8 n) := hgrow7.cell (by go_simp) (by simp; omega); have hs7 : wr.heap.size + 3 ≤ w7.heap.size := (by have h7 := hgrow7.size; simp at h7; omega); have Q := (((BO.out.alloc _).alloc _).alloc _).kept hgrow7 (by omega); have P7 := Bytes.push (((BR.out.alloc _).alloc _).alloc _) (((hnr.alloc hszr _).alloc (by simp; omega) _).alloc (by simp; omega) _) (by simp; omega) hown7 hgrow7; clear hown7 hgrow7)
                      | (at_builtin; refine wpList_append_fits _ rfl (.tmp 175) (.tmp 178) 28 rfl w4.heap.size 5 i5 1 Ybcv.underlying28 hi5 hy1 gO O.length T.length (O.map (Value.int .u8)) rfl (Q.alloc _).own ⟨w7.heap.size, 0, none⟩ 1 1 [.int .u8 n] rfl rfl (news1 _ _ rfl _ _) (one_one _) (by omega) ?_; intro w8 hown8 hgrow8))
                    have P8 := Bytes.push (Q.alloc _) (P7.2.alloc (by omega) _) (by simp; omega) hown8 hgrow8
                    have Q8 := (P7.1.alloc _).kept hgrow8 (by omega)
                    clear hown8 hgrow8
                    go_roundg (T.length - (i + 1))
                    case measure => omega
                    case rel => exact ⟨i + 1, v', R ++ [o], O ++ [n], by omega, rfl, by simp; omega, by simp; omega, by go_num, rfl, by simp, by simp, HV'.out, by rw [reads_yes hlt HK.out HN3.out, HR.out], by rw [outs_yes hlt HK.out HN5.out, HO.out], Q8, P8.1, P8.2⟩
            · have hiT2 : i = T.length := by omega
              have hv : v = allV T := by rw [HV.out, hiT2, List.take_length]
              have hR : R = reads T := by rw [HR.out, hiT2, List.take_length]
              have hO : O = outs T := by rw [HO.out, hiT2, List.take_length]
              clear HV HR HO
              obtain rfl : T.length = i := hiT2.symm
              have RA : Hid (Reads wr aa la A) := RA4.out.below hnr (Nat.le_refl _)
              have RX : Hid (Reads wr ax la A) := RX4.out.below hnr (Nat.le_refl _)
              have RR : Hid (Reads wr (some ⟨w4.heap.size, 0, none⟩) R.length R) := Reads.own BR.out
              have RO : Hid (Reads wr (some ⟨gO, 0, none⟩) O.length O) := Reads.own BO.out
              have hnwr : Below w.heap.size w wr := hnw4.trans (hnr.mono (by have := hnw4.size; omega))
              have hwsz := hnwr.size
              have heA : eqB A A = true := eqB_true rfl
              clear RA4 RX4 BR BO HT4
              cases v with
              | false =>
                have hres : res T A = none := by unfold res; rw [if_neg]; rintro ⟨h, _⟩; rw [← hv] at h; cases h
                obtain ⟨rfl, rfl⟩ : gv = .slice none 0 0 ∧ ok = false := by
                  rcases hq.out with ⟨_, h1, h2⟩ | ⟨O', g', c', h, _⟩
                  · exact ⟨h1, h2⟩
                  · rw [hres] at h; cases h
                have hnil := fun wx => Lib.run_eql_slice_nil (P := Ybcv.prog) wx 28 5 none 0 0 0 0 Ybcv.underlying28
                clear hv hR hO hres hq
                go_wp2_with fail
                refine (eq_any ax aa la cx la ca A A wr RX.out RA.out (by omega)).mono ?_
                rintro e w7 ⟨rfl, hb7⟩
                go_wp2
                go_ret
                exact ⟨rfl, hnwr.trans (hb7.mono hwsz)⟩
              | true =>
                by_cases hRA : R = A
                · have hres : res T A = some O := by unfold res; rw [if_pos ⟨hv.symm, by rw [← hR]; exact hRA⟩, hO]
                  obtain ⟨g', c', rfl, rfl, hgo⟩ : ∃ g' c', gv = .slice (some ⟨g', 0, none⟩) O.length c' ∧ ok = true ∧ Bytes w4 wc.heap.size g' c' O := by
                    rcases hq.out with ⟨h, _⟩ | ⟨O', g', c', h, h1, h2, h3⟩
                    · rw [hres] at h; cases h
                    · obtain rfl : O = O' := Option.some.inj (hres.symm.trans h)
                      exact ⟨g', c', h1, h2, h3⟩
                  have RG : Hid (Reads wr (some ⟨g', 0, none⟩) O.length O) := (Reads.own hgo.own).below hnr (Nat.le_refl _)
                  have he1 : eqB R A = true := eqB_true hRA
                  have heO : eqB O O = true := eqB_true rfl
                  clear hv hR hO hres hq hRA hgo
                  go_wp2_with fail
                  refine (eq_any (some ⟨w4.heap.size, 0, none⟩) aa R.length T.length la ca R A wr RR.out RA.out (by omega)).mono ?_
                  rintro e w7 ⟨rfl, hb7⟩
                  have hs7 := hb7.size
                  have RA7 : Hid (Reads w7 aa la A) := RA.out.below hb7 (Nat.le_refl _)
                  have RX7 : Hid (Reads w7 ax la A) := RX.out.below hb7 (Nat.le_refl _)
                  have RG7 : Hid (Reads w7 (some ⟨g', 0, none⟩) O.length O) := RG.out.below hb7 (Nat.le_refl _)
                  have RO7 : Hid (Reads w7 (some ⟨gO, 0, none⟩) O.length O) := RO.out.below hb7 (Nat.le_refl _)
                  have hnw7 : Below w.heap.size w w7 := hnwr.trans (hb7.mono hwsz)
                  clear RA RX RG RO RR
                  go_wp2_with fail
                  refine (eq_any ax aa la cx la ca A A w7 RX7.out RA7.out (by omega)).mono ?_
                  rintro e w8 ⟨rfl, hb8⟩
                  have RG8 : Hid (Reads w8 (some ⟨g', 0, none⟩) O.length O) := RG7.out.below hb8 (Nat.le_refl _)
                  have RO8 : Hid (Reads w8 (some ⟨gO, 0, none⟩) O.length O) := RO7.out.below hb8 (Nat.le_refl _)
                  have hnw8 : Below w.heap.size w w8 := hnw7.trans (hb8.mono (by have := hnw7.size; omega))
                  clear RA7 RX7 RG7 RO7
                  go_wp2_with fail
                  refine (eq_any (some ⟨g', 0, none⟩) (some ⟨gO, 0, none⟩) O.length c' O.length T.length O O w8 RG8.out RO8.out (by omega)).mono ?_
                  rintro e w9 ⟨rfl, hb9⟩
                  go_wp2
                  go_ret
                  exact ⟨rfl, hnw8.trans (hb9.mono (by have := hnw8.size; omega))⟩
                · have hres : res T A = none := by unfold res; rw [if_neg]; rintro ⟨_, h⟩; exact hRA (by rw [hR]; exact h)
                  obtain ⟨rfl, rfl⟩ : gv = .slice none 0 0 ∧ ok = false := by
                    rcases hq.out with ⟨_, h1, h2⟩ | ⟨O', g', c', h, _⟩
                    · exact ⟨h1, h2⟩
                    · rw [hres] at h; cases h
                  have hnil := fun wx => Lib.run_eql_slice_nil (P := Ybcv.prog) wx 28 5 none 0 0 0 0 Ybcv.underlying28
                  have he1 : eqB R A = false := eqB_false hRA
                  clear hv hR hO hres hq hRA
                  go_wp2_with fail
                  refine (eq_any (some ⟨w4.heap.size, 0, none⟩) aa R.length T.length la ca R A wr RR.out RA.out (by omega)).mono ?_
                  rintro e w7 ⟨rfl, hb7⟩
                  have RA7 : Hid (Reads w7 aa la A) := RA.out.below hb7 (Nat.le_refl _)
                  have RX7 : Hid (Reads w7 ax la A) := RX.out.below hb7 (Nat.le_refl _)
                  have hnw7 : Below w.heap.size w w7 := hnwr.trans (hb7.mono hwsz)
                  clear RA RX RO RR
                  go_wp2_with fail
                  refine (eq_any ax aa la cx la ca A A w7 RX7.out RA7.out (by omega)).mono ?_
                  rintro e w8 ⟨rfl, hb8⟩
                  go_wp2
                  go_ret
                  exact ⟨rfl, hnw7.trans (hb8.mono (by have := hnw7.size; omega))⟩

set_option maxRecDepth 100000 in
theorem qab_long (sa aa : Option Addr) (ls cs la ca : Nat) (w : World) (h : 1024 < ls ∨ 1024 < la) :
    Calls Ybcv.prog 5 #[.slice sa ls cs, .slice aa la ca] w fun e w' => e = .returned (.bool true) ∧ Below w.heap.size w w' := by
  by_cases hl : 1024 < ls
  · have hl' : (1024 : Int) < ls := by omega
    go_enter Ybcv.func5, Ybcv.ntmps5
    go_wp2
    go_ret
    exact ⟨rfl, Below.refl _ _⟩
  · have hl' : (ls : Int) ≤ 1024 := by omega
    have ha' : (1024 : Int) < la := by omega
    go_enter Ybcv.func5, Ybcv.ntmps5
    go_wp2
    go_ret
    exact ⟨rfl, Below.refl _ _⟩
end Go.Proofs.Ymwhbc

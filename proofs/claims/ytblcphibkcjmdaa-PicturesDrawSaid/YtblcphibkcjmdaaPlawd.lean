/-
  The walk of the law on drawings.
-/
import Derived.Test.YtblcphibkcjmdaaPwant
namespace Go.Proofs.Ytblcphibkcjmdaa
open Go.RowKit

theorem lives_quick (w : World) : Calls Try.prog 4 #[] w (RetB (.bool true) w) := lives_true w

set_option maxRecDepth 1000000 in
set_option maxHeartbeats 4000000 in
theorem draw_long (Wd Hg : Nat) (ao : Option Addr) (len cap : Nat) (s : ByteArray) (w : World) (hs : 100 < s.size) :
    Calls Try.prog 3 #[.agg #[.int .u8 Wd, .int .u8 Hg, .slice ao len cap], .string s] w (RetB (.bool true) w) := by
  go_enter Try.func3, Try.ntmps3
  go_wp2_with (go_at_call 4; refine (lives_true _).mono ?_; rintro e w1 ⟨rfl, hB⟩)
  go_ret
  exact ⟨rfl, ((Below.refl _ w).alloc (Nat.le_refl _) _).trans (hB.mono (by simp))⟩

theorem cell_lt {w : World} {b o : Nat} {v : Value} (h : w.cell? ⟨b, o, none⟩ = some v) : b < w.heap.size := by
  by_cases hb : b < w.heap.size
  · exact hb
  · simp [World.cell?, Array.getElem?_eq_none (by omega : w.heap.size ≤ b)] at h
theorem str_add {P : Program} (X Z : List Int) (h : X.length + Z.length ≤ 100000) (W : World) : (Op.stringOp .add (strOfNums X) (strOfNums Z)).run P W = .ok (.string (strOfNums (X ++ Z))) W := by
  rw [run_string_add_sum W _ _ (by rw [strOfNums_size, strOfNums_size]; omega)]
  congr 2
  unfold strOfNums
  rw [ByteArray.mk_append_mk]
  simp
theorem str_line {P : Program} (X : List Int) (h : X.length ≤ 10000) (W : World) : (Op.stringOp .add (strOfNums X) ⟨#[10]⟩).run P W = .ok (.string (strOfNums (X ++ [10]))) W := str_add X [10] (by simp; omega) W
theorem one_byte (W : World) (n : Nat) (hn : W.heap.size = n) (c : Int) : (convert 22 9 (.slice (some ⟨n, 0, none⟩) 1 1)).run Try.prog (W.alloc (.cells #[.int .u8 c] 5)) = .ok (.string (strOfNums [c])) (W.alloc (.cells #[.int .u8 c] 5)) := by
  subst hn
  exact run_convert_bytes_arg (P := Try.prog) _ 22 5 Try.underlying22 (by kernel_rfl) _ 0 1 1 [c] rfl (fun i hi => by
    obtain rfl : i = 0 := by omega
    exact (Row.new W 5 [.int .u8 c]).cell rfl) 9 (by kernel_rfl)

set_option maxRecDepth 1000000 in
set_option maxHeartbeats 8000000 in
theorem draw_walk (Wd Hg : Nat) (hW : Wd < 256) (hH : Hg < 256) (ao : Option Addr) (len cap : Nat) (B : Nat → Nat) (s : ByteArray) (w : World) (hlen : len ≤ 9223372036854775807) (hb : BytesV w ao len B) (hB8 : ∀ t, B t < 256) (hs : s.size ≤ 100) :
    Calls Try.prog 3 #[.agg #[.int .u8 Wd, .int .u8 Hg, .slice ao len cap], .string s] w (RetB (.bool true) w) := by
  have hb0 : BytesV (w.alloc (.cells #[.int .u8 Wd, .int .u8 Hg, .slice ao len cap] 24)) ao len B := by
    rcases hb with h | ⟨b, off, h1, h2, h3⟩
    · exact .inl h
    · exact .inr ⟨b, off, h1, by simp; omega, fun t ht => (((Below.refl _ w).alloc (Nat.le_refl _) _).cell (p := ⟨b, off + t, none⟩) h2).trans (h3 t ht)⟩
  have HOF := Lib.hid (of_chart Wd Hg hW hH ao len cap B _ hlen hb0 hB8)
  have hm8 : 1 ≤ 1 + Wd % 8 ∧ 1 + Wd % 8 ≤ 8 := by omega
  have HSC := Lib.hid (of_simple (1 + 2 * (Hg % 5)) len (1 + Wd % 8) B hm8.2)
  have HVC := Lib.hid (of_valid Hg (1 + Wd % 8) hm8)
  have hn9 : 1 ≤ 1 + 2 * (Hg % 5) ∧ 1 + 2 * (Hg % 5) ≤ 9 := by omega
  obtain ⟨m, hm⟩ : ∃ m, 1 + Wd % 8 = m := ⟨_, rfl⟩
  obtain ⟨n, hn⟩ : ∃ n, 1 + 2 * (Hg % 5) = n := ⟨_, rfl⟩
  rw [hm, hn] at HOF HSC HVC
  rw [hm] at hm8
  rw [hn] at hn9
  clear hb hb0 hB8 hm hn
  obtain ⟨K, hK⟩ : ∃ K, ofK len m B = K := ⟨_, rfl⟩
  obtain ⟨Y, hY⟩ : ∃ Y, ofY len m B = Y := ⟨_, rfl⟩
  rw [hK, hY] at HSC
  have HKY := Lib.hid (⟨hK, hY⟩ : ofK len m B = K ∧ ofY len m B = Y)
  clear hK hY
  go_enter Try.func3, Try.ntmps3
  go_wp2_with fail
  refine (HOF.out).mono ?_; rintro e w1 ⟨g, cp, rfl, hg1, hC1, hB1⟩
  rw [HKY.out.1, HKY.out.2] at hC1
  have HC1 := Lib.hid hC1
  have hz1 : w.heap.size < w1.heap.size := by have := hB1.size; simp at this; omega
  have hBB1 : Below w.heap.size w w1 := ((Below.refl _ w).alloc (Nat.le_refl _) _).trans (hB1.mono (by simp))
  clear hC1 hB1 HOF
  go_upto_region 5 with fail
  obtain ⟨zc, hzc⟩ : ∃ zc, w1.heap.size = zc := ⟨_, rfl⟩
  obtain ⟨w2, hw2⟩ : ∃ w2, w1.alloc (.cells #[.slice (some ⟨g, 0, none⟩) n cp] 28) = w2 := ⟨_, rfl⟩
  have hbx : Row w2 zc 28 [.slice (some ⟨g, 0, none⟩) n cp] := by rw [← hw2, ← hzc]; exact Row.new w1 _ _
  have hBB2 : Below w.heap.size w w2 := by rw [← hw2]; exact hBB1.alloc (by omega) _
  have HC2 := Lib.hid (by rw [← hw2]; exact HC1.out.up hg1 ((Below.refl _ w1).alloc (Nat.le_refl _) _) : ChartAt w2 g 0 n (ofL m) K Y)
  have hz2 : zc < w2.heap.size := hbx.lt
  have hg2 : g < w2.heap.size := by omega
  rw [hzc, hw2]
  have c0 := hbx.cell (i := 0) rfl
  clear hw2 hzc HC1 hbx
  have HBX := Lib.hid hBB2
  go_cut [7, 8] (fun s7 s8 wx => ∃ g7 g8 : Nat, s7 = .slice (some ⟨g7, 0, none⟩) n n ∧ s8 = .slice (some ⟨g8, 0, none⟩) n n ∧ MatAt wx g7 n 5 (ofL m) (yarnV Y) ∧ MatAt wx g8 n 4 (ofL m) (purlV K) ∧ Below w2.heap.size w2 wx)
  case first =>
    have hHC : ∀ W, Below w2.heap.size w2 W → Calls Try.prog 6 #[.agg #[.slice (some ⟨g, 0, none⟩) n cp]] W (ColPost w2 W n 5 (ofL m) (yarnV Y)) := fun W hB => colours_at n cp g m K Y w2 W (by omega) (by omega) hg2 HC2.out HSC.out hB
    have hHR : ∀ W, Below w2.heap.size w2 W → Calls Try.prog 7 #[.agg #[.slice (some ⟨g, 0, none⟩) n cp]] W (ColPost w2 W n 4 (ofL m) (purlV K)) := fun W hB => relief_at n cp g m K Y w2 W (by omega) (by omega) hg2 HC2.out HSC.out hB
    have HHC := Lib.hid hHC
    have HHR := Lib.hid hHR
    clear hHC hHR
    go_region_held3 (fun w' => w'.cell? ⟨zc, 0, none⟩ = some (.slice (some ⟨g, 0, none⟩) n cp)) (go_keep)
      (first
        | (go_at_call 6; refine (HHC.out _ ?_).mono ?_; (first | exact Below.refl _ _ | exact below_drewN' (Below.refl _ _) _ | exact below_drewN' (by assumption) _ | assumption); rintro e w' ⟨g7, rfl, hM7, hl7, hb7, hB7⟩; have c7 := (hB7.cell (p := ⟨zc, 0, none⟩) hz2).trans c0)
        | (go_at_call 7; refine (HHR.out _ ?_).mono ?_; (first | exact Below.refl _ _ | exact below_drewN' (Below.refl _ _) _ | exact below_drewN' (by assumption) _ | assumption); rintro e w' ⟨g8, rfl, hM8, hl8, hb8, hB8⟩; have c8 := (hB8.cell (p := ⟨zc, 0, none⟩) hz2).trans c0))
    all_goals
      go_wp2_with fail
      go_meet
      first
        | exact ⟨g7, g8, rfl, rfl, hM7.below hb8 hl7, hM8, hB8⟩
        | exact ⟨g7, g8, rfl, rfl, hM7, hM8.below hb7 hl8, hB7⟩
  case rest =>
    obtain ⟨g7, g8, rfl, rfl, hM7, hM8, hB3⟩ := hcut
    have k0 := (hB3.cell (p := ⟨zc, 0, none⟩) hz2).trans c0
    have hz3 : zc < wc.heap.size := by have := hB3.size; omega
    have hN : ∀ t, t ≤ n → (drawnI (ofL m) K Y (back n t)).length ≤ 1000 := fun t ht => by
      have h1 := drawn_size n (ofL m) K Y (by omega) (fun _ => by unfold ofL; omega) t ht
      rwa [strOfNums_size] at h1
    have HN := Lib.hid hN
    have HM7 := Lib.hid hM7
    have HM8 := Lib.hid hM8
    clear hN hM7 hM8
    go_wp2_with fail
    go_loopw [6, 9] (fun s6 s9 wr => ∃ t : Nat, t ≤ n ∧ s9 = .int .i64 ((n : Int) - 1 - t) ∧ s6 = .string (strOfNums (drawnI (ofL m) K Y (back n t))) ∧ Below wc.heap.size wc wr) (fun _ s9 _ => (intOf s9 + 1).toNat)
    case atStart => exact ⟨0, Nat.zero_le _, by simp, rfl, Below.refl _ _⟩
    case round =>
      obtain ⟨t, htn, rfl, rfl, hBr⟩ := hrel
      obtain ⟨X, hX⟩ : ∃ X, drawnI (ofL m) K Y (back n t) = X := ⟨_, rfl⟩
      have hXl : X.length ≤ 1000 := by rw [← hX]; exact HN.out t htn
      have HX := Lib.hid hX
      rw [hX]
      have k1 := (hBr.cell (p := ⟨zc, 0, none⟩) hz3).trans k0
      by_cases ht : t < n
      · obtain ⟨j, hj⟩ : ∃ j, n - 1 - t = j := ⟨_, rfl⟩
        have hjn : j < n := by omega
        have ej : (n : Int) - 1 - t = j := by omega
        have HJ := Lib.hid hj
        rw [ej]
        obtain ⟨h7, d7, r7⟩ := HM7.out j hjn
        obtain ⟨h8, d8, r8⟩ := HM8.out j hjn
        obtain ⟨ra, rc, _, q2, q3⟩ := HC2.out j hjn
        rcases q3 with h0 | ⟨b2, o2, rfl, hb2, q3⟩
        · simp only [ofL] at h0; omega
        simp only [ofL, Nat.zero_add] at d7 d8 q2
        have e7 := (hBr.cell (p := ⟨g7, j, none⟩) (cell_lt d7)).trans d7
        have e8 := (hBr.cell (p := ⟨g8, j, none⟩) (cell_lt d8)).trans d8
        have p2 := ((hBr.cell (p := ⟨g, j, none⟩) (by show g < wc.heap.size; have := hB3.size; omega)).trans (hB3.cell (p := ⟨g, j, none⟩) hg2)).trans q2
        have HS := Lib.hid ((HSC.out j hjn).1)
        have HR7 := Lib.hid r7
        have HR8 := Lib.hid r8
        have HQ := Lib.hid (RowAt.below q3 hB3 hb2)
        have hb3 : b2 < wc.heap.size := by have := hB3.size; omega
        have F7 := Lib.hid (fun (W : World) (hB : Below wc.heap.size wc W) => (hB.cell (p := ⟨g7, j, none⟩) (cell_lt d7)).trans d7)
        have F8 := Lib.hid (fun (W : World) (hB : Below wc.heap.size wc W) => (hB.cell (p := ⟨g8, j, none⟩) (cell_lt d8)).trans d8)
        have FP := Lib.hid (fun (W : World) (hB : Below wc.heap.size wc W) => ((hB.cell (p := ⟨g, j, none⟩) (by show g < wc.heap.size; have := hB3.size; omega)).trans (hB3.cell (p := ⟨g, j, none⟩) hg2)).trans q2)
        clear hX hj ej r7 r8 q3
        go_wp2_with fail
        go_quiet (fail)
        go_wp2_with fail
        have hBo := Lib.hid (below_drewN' hBr nq)
        obtain ⟨wo, hwo⟩ : ∃ wo : World, wr.drewN nq = wo := ⟨_, rfl⟩
        rw [hwo] at hBo
        first | rw [hwo] | skip
        go_loopw [6, 10] (fun s6 s10 wr => ∃ k : Nat, k ≤ m ∧ s10 = .int .i64 k ∧ s6 = .string (strOfNums (X ++ rowI k K Y j)) ∧ Below wc.heap.size wc wr) (fun _ s10 _ => m - (intOf s10).toNat)
        case atStart => exact ⟨0, Nat.zero_le _, rfl, by simp [rowI], hBo.out⟩
        case round =>
          obtain ⟨k, hkm, rfl, rfl, hBi⟩ := hrel
          have j1 := (hBi.cell (p := ⟨zc, 0, none⟩) hz3).trans k0
          have j2 := FP.out wr hBi
          by_cases hk : k < m
          · have j3 := F7.out wr hBi
            have j4 := F8.out wr hBi
            obtain ⟨x1, x2, x3, x4, x5⟩ := (HQ.out.below hBi hb3) k (by unfold ofL; exact hk)
            have x6 := (hBi.cell (p := ⟨h7, k, none⟩) HR7.out.lt).trans (HR7.out.cell (vrow_get _ (by unfold ofL; exact hk)))
            have x7 := (hBi.cell (p := ⟨h8, k, none⟩) HR8.out.lt).trans (HR8.out.cell (vrow_get _ (by unfold ofL; exact hk)))
            unfold yarnV at x6
            unfold purlV at x7
            obtain ⟨y1, y2, y3, y4⟩ := HS.out k (by unfold ofL; exact hk)
            obtain ⟨yy, hyy⟩ : ∃ yy, Y j k = yy := ⟨_, rfl⟩
            obtain ⟨kk, hkk⟩ : ∃ kk, K j k = kk := ⟨_, rfl⟩
            rw [hyy] at x2 x6 y3 y4
            rw [hkk] at x1 x7 y1 y2
            have HKK := Lib.hid hkk
            have HYY := Lib.hid hyy
            have hzi := hBi.size
            have hw7 : h7 < wr.heap.size := by have := HR7.out.lt; omega
            have hw8 : h8 < wr.heap.size := by have := HR8.out.lt; omega
            have hw5 : g7 < wr.heap.size := cell_lt j3
            have hw6 : g8 < wr.heap.size := cell_lt j4
            clear hkk hyy
            rcases (by omega : kk = 1 ∨ kk = 2) with rfl | rfl
            · have hcv := fun nq : Nat => one_byte ((wr.alloc (.cells #[.int .u8 1, .int .u8 yy, .int .i64 0, .int .i64 0, .bool false] 38)).drewN nq) (wr.heap.size + 1) (by simp) (48 + yy)
              have had := fun W : World => str_add (P := Try.prog) (X ++ rowI k K Y j) [48 + yy] (by rw [List.length_append, rowI_len]; simp; omega) W
              have HE : Hid (rowI k K Y j ++ [48 + yy] = rowI (k + 1) K Y j) := Lib.hid (by rw [rowI_succ, chI, HKK.out, HYY.out]; congr 2 <;> (try simp) <;> omega)
              go_wp2_with fail
              go_quiet (fail)
              go_wp2_with fail
              go_roundw
              case rel => exact ⟨k + 1, by omega, by go_num, by rw [HE.out], (below_drewN' (hBi.alloc hzi _) nq).alloc (by simp; omega) _⟩
              case measure => simp [intOf]; omega
            · have hcv := fun nq : Nat => one_byte ((wr.alloc (.cells #[.int .u8 2, .int .u8 yy, .int .i64 0, .int .i64 0, .bool false] 38)).drewN nq) (wr.heap.size + 1) (by simp) (97 + yy - 1)
              have had := fun W : World => str_add (P := Try.prog) (X ++ rowI k K Y j) [97 + yy - 1] (by rw [List.length_append, rowI_len]; simp; omega) W
              have HE : Hid (rowI k K Y j ++ [97 + yy - 1] = rowI (k + 1) K Y j) := Lib.hid (by rw [rowI_succ, chI, HKK.out, HYY.out]; congr 2 <;> (try simp) <;> omega)
              go_wp2_with fail
              go_quiet (fail)
              go_wp2_with fail
              go_roundw
              case rel => exact ⟨k + 1, by omega, by go_num, by rw [HE.out], (below_drewN' (hBi.alloc hzi _) nq).alloc (by simp; omega) _⟩
              case measure => simp [intOf]; omega
          · obtain rfl : k = m := by omega
            have had := fun W : World => str_line (P := Try.prog) (X ++ rowI k K Y j) (by rw [List.length_append, rowI_len]; omega) W
            have HE : Hid (X ++ (rowI k K Y j ++ [10]) = drawnI (ofL k) K Y (back n (t + 1))) := Lib.hid (by rw [back_succ, drawnI_snoc, HX.out, HJ.out, List.append_assoc]; rfl)
            go_wp2_with fail
            go_roundw
            case rel => exact ⟨t + 1, by omega, by have := HJ.out; rw [show (n : Int) - 1 - ↑(t + 1) = (j : Int) - 1 from by omega], by rw [HE.out], hBi⟩
            case measure => have := HJ.out; simp [intOf]
      · have ej : (n : Int) - 1 - t = -1 := by omega
        rw [ej]
        go_wp2_with fail
        obtain rfl : t = n := by omega
        have hz4a : wc.heap.size ≤ wr.heap.size := hBr.size
        have hz4b : w2.heap.size ≤ wc.heap.size := hB3.size
        have hB2r : Below w2.heap.size w2 wr := hB3.trans (hBr.mono hz4b)
        have hbw2 : w.heap.size ≤ w2.heap.size := hBB2.size
        have HRW := Lib.hid (by rw [← HX.out]; exact read_want t m K Y wr HSC.out HVC.out : Calls Try.prog 8 #[.string (strOfNums X)] wr
      (fun e w' => ∃ g, e = .returned (.tuple #[.agg #[.slice (some ⟨g, 0, none⟩) t t], .int .i64 0]) ∧ ChartV w' (some ⟨g, 0, none⟩) t (ofL m) K Y ∧ Below wr.heap.size wr w'))
        refine (HRW.out).mono ?_; rintro e w4 ⟨g4, rfl, hC4, hB4⟩
        have HB24 := Lib.hid (hB2r.trans (hB4.mono (by omega)))
        have hz4 : w2.heap.size ≤ w4.heap.size := HB24.out.size
        have l1 := (HB24.out.cell (p := ⟨zc, 0, none⟩) hz2).trans c0
        have hz4c : zc < w4.heap.size := by omega
        have HC4 := Lib.hid hC4
        clear hC4 hB4 HRW k1
        go_wp2_with fail
        obtain ⟨w5, hw5⟩ : ∃ w5, w4.alloc (.cells #[.slice (some ⟨g4, 0, none⟩) t t] 28) = w5 := ⟨_, rfl⟩
        have hB45 : Below w4.heap.size w4 w5 := by rw [← hw5]; exact (Below.refl _ _).alloc (Nat.le_refl _) _
        have hR5 : Row w5 w4.heap.size 28 [.slice (some ⟨g4, 0, none⟩) t t] := by rw [← hw5]; exact Row.new w4 _ _
        rw [hw5]
        have HB25 := Lib.hid (HB24.out.trans (hB45.mono hz4))
        have HC5 := Lib.hid (HC4.out.below hB45)
        have hz5 : w4.heap.size < w5.heap.size := hR5.lt
        have HD := Lib.hid (draw_yes t cp (ofL m) K Y (some ⟨g, 0, none⟩) w5 (.inr ⟨g, 0, rfl, by omega, HC2.out.up hg2 HB25.out⟩) HSC.out HVC.out)
        clear hw5 hB45
        refine (HD.out).mono ?_; rintro e w6 ⟨rfl, hB6⟩
        rw [HX.out]
        have HB26 := Lib.hid (HB25.out.trans (hB6.mono (by omega)))
        have HC6 := Lib.hid (HC5.out.below hB6)
        have hR6 := hR5.below hB6 hz5
        have hz6 : w5.heap.size ≤ w6.heap.size := hB6.size
        have l2 := (HB26.out.cell (p := ⟨zc, 0, none⟩) hz2).trans c0
        have l3 := hR6.cell (i := 0) rfl
        have HS6 := Lib.hid (same_chart t t cp (ofL m) K Y (some ⟨g4, 0, none⟩) (some ⟨g, 0, none⟩) w6 (by omega) HC6.out (.inr ⟨g, 0, rfl, by omega, HC2.out.up hg2 HB26.out⟩) HSC.out)
        clear hB6 HD HC5 hR5
        go_wp2_with fail
        refine (HS6.out).mono ?_; rintro e w7 ⟨rfl, hB7⟩
        have HB27 := Lib.hid (HB26.out.trans (hB7.mono (by omega)))
        have hR7 := hR6.below hB7 (by omega)
        have l4 := hR7.cell (i := 0) rfl
        have hz7 : w6.heap.size ≤ w7.heap.size := hB7.size
        clear hB7 HS6 hR6
        go_wp2_with fail
        refine (read_any s w7 (by omega)).mono ?_
        rintro e w8 ⟨h8, hB8⟩
        have HB8 := Lib.hid (hBB2.trans ((HB27.out.trans (hB8.mono (by omega))).mono hbw2))
        rcases h8 with ⟨R, g9, hR, rfl, hC8, hS8⟩ | ⟨_, rfl⟩
        · have HC8 := Lib.hid hC8
          have HR8 := Lib.hid hR
          have HS8 := Lib.hid hS8
          clear hB8 hC8 hR hS8
          go_wp2_with fail
          refine (draw_read s R g9 _ HR8.out (HC8.out.below ((Below.refl _ w8).alloc (Nat.le_refl _) _)) HS8.out).mono ?_
          rintro e w9 ⟨rfl, hB9⟩
          have HB9 := Lib.hid ((HB8.out.alloc (HB8.out.size) _).trans (hB9.mono (by have := HB8.out.size; simp; omega)))
          clear hB9
          go_wp2_with fail
          refine (lives_true w9).mono ?_
          rintro e wl ⟨rfl, hBl⟩
          have HBl := Lib.hid (HB9.out.trans (hBl.mono HB9.out.size))
          clear hBl
          go_wp2
          go_ret
          exact ⟨rfl, HBl.out⟩
        · clear hB8
          go_wp2_with fail
          refine (lives_true _).mono ?_
          rintro e wl ⟨rfl, hBl⟩
          have HBl := Lib.hid ((HB8.out.alloc (HB8.out.size) _).trans (hBl.mono (by have := HB8.out.size; simp; omega)))
          clear hBl
          go_wp2
          go_ret
          exact ⟨rfl, HBl.out⟩

end Go.Proofs.Ytblcphibkcjmdaa

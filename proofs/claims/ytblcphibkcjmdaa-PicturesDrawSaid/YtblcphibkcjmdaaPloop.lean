/-
  The contract of pictures.Loop, of a row with an even number.
-/
import Derived.Test.YtblcphibkcjmdaaPcnt
namespace Go.Proofs.Ytblcphibkcjmdaa
open Go.RowKit

/-- How many loops of yarn y lie ahead of row k. -/
def ahead (L : Nat → Nat) (Y : Nat → Nat → Int) (y : Int) : Nat → Nat
  | 0 => if y = mn (Y 0) (L 0 - 1) then L 0 else 0
  | k + 1 => ahead L Y y k + cnt (Y k) y (L k)
theorem ahead_le (L : Nat → Nat) (Y : Nat → Nat → Int) (y : Int) (n : Nat) (h : ∀ i, i < n → L i ≤ 16) (hn : 0 < n) : ∀ k, k ≤ n → ahead L Y y k ≤ 16 + 16 * k
  | 0, _ => by
    have := h 0 hn
    unfold ahead
    split <;> omega
  | k + 1, hk => by
    have h1 := ahead_le L Y y n h hn k (by omega)
    have h2 := cnt_le (Y k) y (L k)
    have h3 := h k (by omega)
    unfold ahead
    omega

set_option maxRecDepth 20000 in
set_option maxHeartbeats 1000000 in
theorem loop_even (n cap r c : Nat) (L : Nat → Nat) (K Y : Nat → Nat → Int) (ao : Option Addr) (w : World) (hc : ChartV w ao n L K Y) (hs : SimpleChart n L K Y) (hv : ValidC n L) (hr : r < n) (hcl : c < L r) (hev : r % 2 = 0) (hcap : n ≤ cap) :
    Calls Try.prog 12 #[.agg #[.slice ao n cap], .int .i64 r, .int .i64 c] w
      (RetB (.tuple #[.agg #[.int .u8 (Y r c), .int .i64 ((ahead L Y (Y r c) r + cnt (fun i => Y r (c + 1 + i)) (Y r c) (L r - (c + 1)) : Nat) : Int)], .int .i64 0]) w) := by
  have HP := Lib.hid (plain_yes n cap L K Y ao ((w.alloc (.cells #[.slice ao n cap] 28)).alloc (.cells #[.int .u8 0, .int .i64 0] 46)) (hc.below (((Below.refl _ w).alloc (Nat.le_refl _) _).alloc (by simp) _)) hs hv)
  have HV := Lib.hid hv
  have HS := Lib.hid hs
  have hn := hv.2.1
  rcases hc with h0 | ⟨b, off, rfl, hb, hc⟩
  · omega
  have HC := Lib.hid (fun w1 (hB : Below w.heap.size w w1) => hc.below hB (Nat.le_refl _) hb)
  obtain ⟨hl1, hl2⟩ := hv.2.2.1 r hr
  obtain ⟨hm1, hm2⟩ := hv.2.2.1 0 (by omega)
  clear hc hs hv
  have g1 : decide ((r : Int) < 0) = false := by simp
  have g2 : decide ((n : Int) ≤ (r : Int)) = false := by simp; omega
  have g3 : decide ((c : Int) < 0) = false := by simp
  have g4 : decide ((L r : Int) ≤ (c : Int)) = false := by simp; omega
  go_enter Try.func12, Try.ntmps12
  go_wp2_with fail
  refine (HP.out).mono ?_; rintro e w1 ⟨rfl, hB⟩
  have hBB : Below w.heap.size w w1 := (((Below.refl _ w).alloc (Nat.le_refl _) _).alloc (by simp) _).trans (hB.mono (by simp; omega))
  have c1 : w1.cell? ⟨w.heap.size, 0, none⟩ = some (.slice (some ⟨b, off, none⟩) n cap) := (hB.cell (p := ⟨w.heap.size, 0, none⟩) (by simp; omega)).trans (by simp [go_sem])
  have HRow : Hid (Row w1 (w.heap.size + 1) 46 [.int .u8 0, .int .i64 0]) := Lib.hid (by
    have := Row.new (w.alloc (.cells #[.slice (some ⟨b, off, none⟩) n cap] 28)) 46 [.int .u8 0, .int .i64 0]
    rw [World.size_alloc] at this
    exact this.of_heap (hB.block _ (by simp)))
  clear hB HP
  obtain ⟨ra, rc, p0, p2w, p3⟩ := HC.out w (Below.refl _ _) r hr
  have p2 := (hBB.cell (p := ⟨b, off + r, none⟩) hb).trans p2w
  rcases p3 with h0 | ⟨b2, o2, rfl, hb2, p3⟩
  · omega
  have PR := Lib.hid p3
  clear p3
  obtain ⟨d1, d2, d3, d4, d5⟩ := (PR.out.below hBB hb2) c hcl
  obtain ⟨rb, rd, q0, q2, q3⟩ := HC.out w1 hBB 0 (by omega)
  rw [Nat.add_zero] at q2
  rcases q3 with h0 | ⟨b3, o3, rfl, hb3, q3⟩
  · omega
  have HF := Lib.hid (first_row (L 0) rd b3 o3 (K 0) (Y 0) w1 hm1 (by omega) hb3 q3 (HS.out 0 (by omega)).1)
  clear q3
  go_wp2_with fail
  refine (HF.out).mono ?_; rintro e w2 ⟨rfl, hB2⟩
  have hBB2 : Below w.heap.size w w2 := hBB.trans (hB2.mono hBB.size)
  have c2 : w2.cell? ⟨w.heap.size, 0, none⟩ = some (.slice (some ⟨b, off, none⟩) n cap) := (hB2.cell (p := ⟨w.heap.size, 0, none⟩) (by have := HRow.out.lt; show w.heap.size < w1.heap.size; omega)).trans c1
  have HRow2 := Lib.hid (HRow.out.of_heap (w' := w2) (hB2.block _ HRow.out.lt))
  have q3 := (hB2.cell (p := ⟨b, off, none⟩) (by have := hBB.size; show b < w1.heap.size; omega)).trans q2
  clear hB2 HF c1 HRow p2 p2w d1 d2 d3 d4 d5 q2
  obtain ⟨y, hy⟩ : ∃ y, Y r c = y := ⟨_, rfl⟩
  rw [hy]
  have HY := Lib.hid hy
  by_cases he : y = mn (Y 0) (L 0 - 1)
  · have hye : (y == mn (Y 0) (L 0 - 1)) = true := by simpa using he
    have HA0 : Hid (ahead L Y y 0 = L 0) := Lib.hid (by rw [ahead, if_pos he])
    clear he hy
    go_wp2_with fail
    go_loopw [10, 69] (fun s i wr => ∃ k : Nat, k ≤ r ∧ s = .int .i64 (ahead L Y y k) ∧ i = .int .i64 k ∧ Below w.heap.size w wr ∧ Row wr (w.heap.size + 1) 46 [.int .u8 0, .int .i64 0]) (fun _ i _ => r - (intOf i).toNat)
    case atStart => exact ⟨0, Nat.zero_le _, by rw [HA0.out], rfl, hBB2, HRow2.out⟩
    case round =>
      obtain ⟨k, hk, rfl, rfl, hB, hRo⟩ := hrel
      have hle := ahead_le L Y y n (fun i hi => (HV.out.2.2.1 i hi).2) (by omega) k (by omega)
      obtain ⟨m, hm⟩ : ∃ m, ahead L Y y k = m := ⟨_, rfl⟩
      rw [hm] at hle ⊢
      by_cases hkr : k < r
      · obtain ⟨sa, sc, s0, s2, s3⟩ := HC.out wr hB k (by omega)
        have hlk := (HV.out.2.2.1 k (by omega)).2
        have hcl2 := cnt_le (Y k) y (L k)
        have HCT := Lib.hid (count_row (L k) sc (K k) (Y k) y sa wr (by omega) s3)
        have hnx : Hid (ahead L Y y (k + 1) = m + cnt (Y k) y (L k)) := Lib.hid (by rw [ahead, hm])
        obtain ⟨m2, hm2⟩ : ∃ m2, cnt (Y k) y (L k) = m2 := ⟨_, rfl⟩
        rw [hm2] at HCT hnx hcl2
        clear s3 hm hm2
        go_wp2_with fail
        refine (HCT.out).mono ?_; rintro e w3 ⟨rfl, hB3⟩
        have hB4 := hB.trans (hB3.mono hB.size)
        have hR4 := hRo.of_heap (w' := w3) (hB3.block _ hRo.lt)
        clear hB3 HCT
        go_wp2
        go_roundw
        case rel => exact ⟨k + 1, by omega, by rw [hnx.out]; go_num, by go_num, hB4, hR4⟩
        case measure => simp [intOf]; omega
      · obtain rfl : r = k := by omega
        have HCT : Hid (∀ o cp, (o = o2 + (c + 1) * 5 ∨ L r - (c + 1) = 0) → Calls Try.prog 19 #[.slice (some ⟨b2, o, none⟩) (L r - (c + 1)) cp, .int .u8 y] wr (RetB (.int .i64 (cnt (fun i => Y r (c + 1 + i)) y (L r - (c + 1)))) wr)) := Lib.hid fun o cp ho => by
          refine count_row (L r - (c + 1)) cp (fun i => K r (c + 1 + i)) (fun i => Y r (c + 1 + i)) y _ wr (by omega) ?_
          rcases ho with rfl | ho
          · refine .inr ⟨b2, o2 + (c + 1) * 5, rfl, Nat.lt_of_lt_of_le hb2 hB.size, fun i hi => ?_⟩
            have := (PR.out.below hB hb2) (c + 1 + i) (by omega)
            rwa [show o2 + (c + 1 + i) * 5 = o2 + (c + 1) * 5 + i * 5 by omega] at this
          · exact .inl ho
        have hcl2 := cnt_le (fun i => Y r (c + 1 + i)) y (L r - (c + 1))
        have p1 := hRo.cell (i := 0) rfl
        have p3 := hRo.cell (i := 1) rfl
        have hfz : ∀ i, wr.frozen? ⟨w.heap.size + 1, i, none⟩ = false := hRo.frozen
        obtain ⟨m2, hm2⟩ : ∃ m2, cnt (fun i => Y r (c + 1 + i)) y (L r - (c + 1)) = m2 := ⟨_, rfl⟩
        rw [hm2] at HCT hcl2
        have HM2 := Lib.hid hm2
        have HM1 := Lib.hid hm
        have hRo2 := Lib.hid hRo
        clear hm hm2 hRo
        by_cases hrc : rc = c + 1
        · have HCT0 := Lib.hid (count_row 0 0 (K r) (Y r) y (some ⟨b2, o2, none⟩) wr (by omega) (.inl rfl))
          have hm20 : m2 = 0 := by omega
          subst hm20
          rw [cnt] at HCT0
          subst hrc
          go_wp2_with fail
          refine (HCT0.out).mono ?_; rintro e w3 ⟨rfl, hB3⟩
          have hB4 := hB.trans (hB3.mono hB.size)
          have hR4 := hRo2.out.of_heap (w' := w3) (hB3.block _ hRo2.out.lt)
          have p5 := hR4.cell (i := 0) rfl
          have p6 := hR4.cell (i := 1) rfl
          have hfy : ∀ i, w3.frozen? ⟨w.heap.size + 1, i, none⟩ = false := hR4.frozen
          clear hB3 HCT p1 p3 hfz
          go_wp2
          refine bodyPost_ret (v := .tuple #[.agg #[.int .u8 y, .int .i64 ((m : Int))], .int .i64 0]) (results_cr (p := 6) (u := 7) rfl _ _ _ (w.heap.size + 1) #[.int .u8 y, .int .i64 ((m : Int))] rfl rfl (run_loadVar_row _ (w.heap.size + 1) _ 46 #[.int .u8 y, .int .i64 ((m : Int))] _ _ ((hR4.setCell 0 (.int .u8 y)).setCell 1 (.int .i64 ((m : Int)))) Try.underlying46 rfl (by kernel_rfl))) rfl ?_
          refine ⟨?_, (hB4.setCell (p := ⟨w.heap.size + 1, 0, none⟩) (Nat.le_succ _) _).setCell (p := ⟨w.heap.size + 1, 1, none⟩) (Nat.le_succ _) _⟩
          rw [HY.out, HM1.out, HM2.out]
          first | rfl | simp
        · go_wp2_with fail
          refine (HCT.out (o2 + (c + 1) * 5) (rc - (c + 1)) (.inl rfl)).mono ?_; rintro e w3 ⟨rfl, hB3⟩
          have hB4 := hB.trans (hB3.mono hB.size)
          have hR4 := hRo2.out.of_heap (w' := w3) (hB3.block _ hRo2.out.lt)
          have p5 := hR4.cell (i := 0) rfl
          have p6 := hR4.cell (i := 1) rfl
          have hfy : ∀ i, w3.frozen? ⟨w.heap.size + 1, i, none⟩ = false := hR4.frozen
          clear hB3 HCT p1 p3 hfz
          go_wp2
          refine bodyPost_ret (v := .tuple #[.agg #[.int .u8 y, .int .i64 ((m : Int) + m2)], .int .i64 0]) (results_cr (p := 6) (u := 7) rfl _ _ _ (w.heap.size + 1) #[.int .u8 y, .int .i64 ((m : Int) + m2)] rfl rfl (run_loadVar_row _ (w.heap.size + 1) _ 46 #[.int .u8 y, .int .i64 ((m : Int) + m2)] _ _ ((hR4.setCell 0 (.int .u8 y)).setCell 1 (.int .i64 ((m : Int) + m2))) Try.underlying46 rfl (by kernel_rfl))) rfl ?_
          refine ⟨?_, (hB4.setCell (p := ⟨w.heap.size + 1, 0, none⟩) (Nat.le_succ _) _).setCell (p := ⟨w.heap.size + 1, 1, none⟩) (Nat.le_succ _) _⟩
          rw [HY.out, HM1.out, HM2.out]
          first | rfl | simp
  · have hye : (y == mn (Y 0) (L 0 - 1)) = false := by simpa using he
    have HA0 : Hid (ahead L Y y 0 = 0) := Lib.hid (by rw [ahead, if_neg he])
    clear he hy
    go_wp2_with fail
    go_loopw [10, 69] (fun s i wr => ∃ k : Nat, k ≤ r ∧ s = .int .i64 (ahead L Y y k) ∧ i = .int .i64 k ∧ Below w.heap.size w wr ∧ Row wr (w.heap.size + 1) 46 [.int .u8 0, .int .i64 0]) (fun _ i _ => r - (intOf i).toNat)
    case atStart => exact ⟨0, Nat.zero_le _, by rw [HA0.out]; rfl, rfl, hBB2, HRow2.out⟩
    case round =>
      obtain ⟨k, hk, rfl, rfl, hB, hRo⟩ := hrel
      have hle := ahead_le L Y y n (fun i hi => (HV.out.2.2.1 i hi).2) (by omega) k (by omega)
      obtain ⟨m, hm⟩ : ∃ m, ahead L Y y k = m := ⟨_, rfl⟩
      rw [hm] at hle ⊢
      by_cases hkr : k < r
      · obtain ⟨sa, sc, s0, s2, s3⟩ := HC.out wr hB k (by omega)
        have hlk := (HV.out.2.2.1 k (by omega)).2
        have hcl2 := cnt_le (Y k) y (L k)
        have HCT := Lib.hid (count_row (L k) sc (K k) (Y k) y sa wr (by omega) s3)
        have hnx : Hid (ahead L Y y (k + 1) = m + cnt (Y k) y (L k)) := Lib.hid (by rw [ahead, hm])
        obtain ⟨m2, hm2⟩ : ∃ m2, cnt (Y k) y (L k) = m2 := ⟨_, rfl⟩
        rw [hm2] at HCT hnx hcl2
        clear s3 hm hm2
        go_wp2_with fail
        refine (HCT.out).mono ?_; rintro e w3 ⟨rfl, hB3⟩
        have hB4 := hB.trans (hB3.mono hB.size)
        have hR4 := hRo.of_heap (w' := w3) (hB3.block _ hRo.lt)
        clear hB3 HCT
        go_wp2
        go_roundw
        case rel => exact ⟨k + 1, by omega, by rw [hnx.out]; go_num, by go_num, hB4, hR4⟩
        case measure => simp [intOf]; omega
      · obtain rfl : r = k := by omega
        have HCT : Hid (∀ o cp, (o = o2 + (c + 1) * 5 ∨ L r - (c + 1) = 0) → Calls Try.prog 19 #[.slice (some ⟨b2, o, none⟩) (L r - (c + 1)) cp, .int .u8 y] wr (RetB (.int .i64 (cnt (fun i => Y r (c + 1 + i)) y (L r - (c + 1)))) wr)) := Lib.hid fun o cp ho => by
          refine count_row (L r - (c + 1)) cp (fun i => K r (c + 1 + i)) (fun i => Y r (c + 1 + i)) y _ wr (by omega) ?_
          rcases ho with rfl | ho
          · refine .inr ⟨b2, o2 + (c + 1) * 5, rfl, Nat.lt_of_lt_of_le hb2 hB.size, fun i hi => ?_⟩
            have := (PR.out.below hB hb2) (c + 1 + i) (by omega)
            rwa [show o2 + (c + 1 + i) * 5 = o2 + (c + 1) * 5 + i * 5 by omega] at this
          · exact .inl ho
        have hcl2 := cnt_le (fun i => Y r (c + 1 + i)) y (L r - (c + 1))
        have p1 := hRo.cell (i := 0) rfl
        have p3 := hRo.cell (i := 1) rfl
        have hfz : ∀ i, wr.frozen? ⟨w.heap.size + 1, i, none⟩ = false := hRo.frozen
        obtain ⟨m2, hm2⟩ : ∃ m2, cnt (fun i => Y r (c + 1 + i)) y (L r - (c + 1)) = m2 := ⟨_, rfl⟩
        rw [hm2] at HCT hcl2
        have HM2 := Lib.hid hm2
        have HM1 := Lib.hid hm
        have hRo2 := Lib.hid hRo
        clear hm hm2 hRo
        by_cases hrc : rc = c + 1
        · have HCT0 := Lib.hid (count_row 0 0 (K r) (Y r) y (some ⟨b2, o2, none⟩) wr (by omega) (.inl rfl))
          have hm20 : m2 = 0 := by omega
          subst hm20
          rw [cnt] at HCT0
          subst hrc
          go_wp2_with fail
          refine (HCT0.out).mono ?_; rintro e w3 ⟨rfl, hB3⟩
          have hB4 := hB.trans (hB3.mono hB.size)
          have hR4 := hRo2.out.of_heap (w' := w3) (hB3.block _ hRo2.out.lt)
          have p5 := hR4.cell (i := 0) rfl
          have p6 := hR4.cell (i := 1) rfl
          have hfy : ∀ i, w3.frozen? ⟨w.heap.size + 1, i, none⟩ = false := hR4.frozen
          clear hB3 HCT p1 p3 hfz
          go_wp2
          refine bodyPost_ret (v := .tuple #[.agg #[.int .u8 y, .int .i64 ((m : Int))], .int .i64 0]) (results_cr (p := 6) (u := 7) rfl _ _ _ (w.heap.size + 1) #[.int .u8 y, .int .i64 ((m : Int))] rfl rfl (run_loadVar_row _ (w.heap.size + 1) _ 46 #[.int .u8 y, .int .i64 ((m : Int))] _ _ ((hR4.setCell 0 (.int .u8 y)).setCell 1 (.int .i64 ((m : Int)))) Try.underlying46 rfl (by kernel_rfl))) rfl ?_
          refine ⟨?_, (hB4.setCell (p := ⟨w.heap.size + 1, 0, none⟩) (Nat.le_succ _) _).setCell (p := ⟨w.heap.size + 1, 1, none⟩) (Nat.le_succ _) _⟩
          rw [HY.out, HM1.out, HM2.out]
          first | rfl | simp
        · go_wp2_with fail
          refine (HCT.out (o2 + (c + 1) * 5) (rc - (c + 1)) (.inl rfl)).mono ?_; rintro e w3 ⟨rfl, hB3⟩
          have hB4 := hB.trans (hB3.mono hB.size)
          have hR4 := hRo2.out.of_heap (w' := w3) (hB3.block _ hRo2.out.lt)
          have p5 := hR4.cell (i := 0) rfl
          have p6 := hR4.cell (i := 1) rfl
          have hfy : ∀ i, w3.frozen? ⟨w.heap.size + 1, i, none⟩ = false := hR4.frozen
          clear hB3 HCT p1 p3 hfz
          go_wp2
          refine bodyPost_ret (v := .tuple #[.agg #[.int .u8 y, .int .i64 ((m : Int) + m2)], .int .i64 0]) (results_cr (p := 6) (u := 7) rfl _ _ _ (w.heap.size + 1) #[.int .u8 y, .int .i64 ((m : Int) + m2)] rfl rfl (run_loadVar_row _ (w.heap.size + 1) _ 46 #[.int .u8 y, .int .i64 ((m : Int) + m2)] _ _ ((hR4.setCell 0 (.int .u8 y)).setCell 1 (.int .i64 ((m : Int) + m2))) Try.underlying46 rfl (by kernel_rfl))) rfl ?_
          refine ⟨?_, (hB4.setCell (p := ⟨w.heap.size + 1, 0, none⟩) (Nat.le_succ _) _).setCell (p := ⟨w.heap.size + 1, 1, none⟩) (Nat.le_succ _) _⟩
          rw [HY.out, HM1.out, HM2.out]
          first | rfl | simp
end Go.Proofs.Ytblcphibkcjmdaa

/-
  Contracts: charts.Check, pictures.Plain.
-/
import Derived.Test.YtblcphibkcjmdaaPchk
namespace Go.Proofs.Ytblcphibkcjmdaa
open Go.RowKit

/-- A chart's rows: none, or at a block. -/
def ChartV (w : World) (ao : Option Addr) (n : Nat) (L : Nat → Nat) (K Y : Nat → Nat → Int) : Prop := n = 0 ∨ ∃ b off, ao = some ⟨b, off, none⟩ ∧ b < w.heap.size ∧ ChartAt w b off n L K Y
theorem ChartV.below {w w' : World} {ao : Option Addr} {n : Nat} {L : Nat → Nat} {K Y : Nat → Nat → Int} (h : ChartV w ao n L K Y) (hB : Below w.heap.size w w') : ChartV w' ao n L K Y := by
  rcases h with h | ⟨b, off, h1, h2, h3⟩
  · exact .inl h
  · exact .inr ⟨b, off, h1, Nat.lt_of_lt_of_le h2 hB.size, h3.below hB (Nat.le_refl _) h2⟩

theorem loads_chart (n cap : Nat) (L : Nat → Nat) (K Y : Nat → Nat → Int) (ao : Option Addr) (w : World) (hn : n ≤ 1000000) (hc : ChartV w ao n L K Y) (hs : SimpleChart n L K Y) :
    Calls Try.prog 29 #[.agg #[.slice ao n cap]] w (LCPost w n L) := by
  by_cases h : n % 2 = 1 ∧ n ≤ 31
  · rcases hc with h0 | ⟨b, off, rfl, hb, hc⟩
    · omega
    · exact chart_rest n cap b off L K Y w h.1 h.2 hb hc hs
  · exact chart_big n cap L ao w hn h

def ChkPost (w : World) (n : Nat) (L : Nat → Nat) (e : Ending) (w' : World) : Prop := ∃ c, e = .returned (.int .i64 c) ∧ (c = 0 ↔ ValidC n L) ∧ Below w.heap.size w w'
set_option maxRecDepth 20000 in
theorem check_chart (n cap : Nat) (L : Nat → Nat) (K Y : Nat → Nat → Int) (ao : Option Addr) (w : World) (hn : n ≤ 1000000) (hc : ChartV w ao n L K Y) (hs : SimpleChart n L K Y) :
    Calls Try.prog 20 #[.agg #[.slice ao n cap]] w (ChkPost w n L) := by
  have HL := Lib.hid (loads_chart n cap L K Y ao (w.alloc (.cells #[.slice ao n cap] 28)) hn (hc.below ((Below.refl _ w).alloc (Nat.le_refl _) _)) hs)
  clear hc hs
  go_enter Try.func20, Try.ntmps20
  go_wp2_with fail
  refine (HL.out).mono ?_; rintro e w1 ⟨v, c, rfl, hc, hB⟩
  have HC := Lib.hid hc
  have hBB : Below w.heap.size w w1 := ((Below.refl _ w).alloc (Nat.le_refl _) _).trans (hB.mono (by simp))
  clear hc hB HL
  go_wp2
  go_ret
  exact ⟨c, rfl, HC.out, hBB⟩

set_option maxRecDepth 20000 in
set_option maxHeartbeats 1000000 in
theorem plain_no (n cap : Nat) (L : Nat → Nat) (K Y : Nat → Nat → Int) (ao : Option Addr) (w : World) (hn : n ≤ 1000000) (hc : ChartV w ao n L K Y) (hs : SimpleChart n L K Y) (hv : ¬ ValidC n L) :
    Calls Try.prog 13 #[.agg #[.slice ao n cap]] w (RetB (.bool false) w) := by
  have HL := Lib.hid (check_chart n cap L K Y ao (w.alloc (.cells #[.slice ao n cap] 28)) hn (hc.below ((Below.refl _ w).alloc (Nat.le_refl _) _)) hs)
  have HV := Lib.hid hv
  clear hc hs hv
  go_enter Try.func13, Try.ntmps13
  go_wp2_with fail
  refine (HL.out).mono ?_; rintro e w1 ⟨c, rfl, hc, hB⟩
  have hne : (c != 0) = true := by
    have : c ≠ 0 := fun h => HV.out (hc.1 h)
    simpa using this
  have hBB : Below w.heap.size w w1 := ((Below.refl _ w).alloc (Nat.le_refl _) _).trans (hB.mono (by simp))
  clear hc hB HL
  go_wp2
  go_ret
  exact ⟨rfl, hBB⟩

set_option maxRecDepth 20000 in
set_option maxHeartbeats 2000000 in
theorem plain_yes (n cap : Nat) (L : Nat → Nat) (K Y : Nat → Nat → Int) (ao : Option Addr) (w : World) (hc : ChartV w ao n L K Y) (hs : SimpleChart n L K Y) (hv : ValidC n L) :
    Calls Try.prog 13 #[.agg #[.slice ao n cap]] w (RetB (.bool true) w) := by
  have hn := hv.2.1
  have HL := Lib.hid (check_chart n cap L K Y ao (w.alloc (.cells #[.slice ao n cap] 28)) (by omega) (hc.below ((Below.refl _ w).alloc (Nat.le_refl _) _)) hs)
  have HV := Lib.hid hv
  have HS := Lib.hid hs
  rcases hc with h0 | ⟨b, off, rfl, hb, hc⟩
  · have := hv.1
    omega
  have HC := Lib.hid (fun w1 (hB : Below w.heap.size w w1) => hc.below hB (Nat.le_refl _) hb)
  clear hc hs hv
  go_enter Try.func13, Try.ntmps13
  go_wp2_with fail
  refine (HL.out).mono ?_; rintro e w1 ⟨c, rfl, hc, hB⟩
  obtain rfl : c = 0 := hc.2 HV.out
  have hBB : Below w.heap.size w w1 := ((Below.refl _ w).alloc (Nat.le_refl _) _).trans (hB.mono (by simp))
  have c1 : w1.cell? ⟨w.heap.size, 0, none⟩ = some (.slice (some ⟨b, off, none⟩) n cap) := (hB.cell (p := ⟨w.heap.size, 0, none⟩) (by simp)).trans (by simp [go_sem])
  clear hc hB HL
  go_wp2_with fail
  go_loopw [13] (fun i wr => ∃ k : Nat, k ≤ n ∧ i = .int .i64 k ∧ Below w.heap.size w wr) (fun i _ => n - (intOf i).toNat)
  case atStart => exact ⟨0, Nat.zero_le _, rfl, hBB⟩
  case round =>
    obtain ⟨k, hk, rfl, hB⟩ := hrel
    by_cases hkn : k < n
    · obtain ⟨ra, rc, _, q2, q3⟩ := HC.out wr hB k hkn
      rcases q3 with h0 | ⟨b2, o2, rfl, hb2, q3⟩
      · have := (HV.out.2.2.1 k hkn).1
        omega
      obtain ⟨hl1, hl2⟩ := HV.out.2.2.1 k hkn
      have QR := Lib.hid q3
      clear q3
      go_wp2_with fail
      obtain ⟨wo, rfl⟩ : ∃ wo : World, wo = wr := ⟨_, rfl⟩
      go_loopw [19] (fun i wr => ∃ j : Nat, j ≤ L k ∧ i = .int .i64 j ∧ Below wo.heap.size wo wr) (fun i _ => L k - (intOf i).toNat)
      case atStart => exact ⟨0, Nat.zero_le _, rfl, Below.refl _ _⟩
      case round =>
        obtain ⟨j, hj, rfl, hB2⟩ := hrel
        by_cases hjk : j < L k
        · obtain ⟨d1, d2, d3, d4, d5⟩ := (QR.out.below hB2 hb2) j hjk
          obtain ⟨s1, s2, _, _⟩ := (HS.out k hkn).1 j hjk
          have hk12 : K k j = 1 ∨ K k j = 2 := by omega
          have hz := hB2.size
          rcases hk12 with hk1 | hk2
          · rw [hk1] at d1
            clear hk1 s1 s2
            go_wp2
            go_roundw
            case rel => exact ⟨j + 1, by omega, by go_num, by go_grown⟩
            case measure => simp [intOf]; omega
          · rw [hk2] at d1
            clear hk2 s1 s2
            go_wp2
            go_roundw
            case rel => exact ⟨j + 1, by omega, by go_num, by go_grown⟩
            case measure => simp [intOf]; omega
        · clear hj
          have hC := hB.trans (hB2.mono hB.size)
          go_wp2
          go_roundw
          case rel => exact ⟨k + 1, by omega, by go_num, hC⟩
          case measure => simp [intOf]; omega
    · obtain rfl : n = k := by omega
      go_wp2
      go_ret
      exact ⟨rfl, hB⟩

end Go.Proofs.Ytblcphibkcjmdaa

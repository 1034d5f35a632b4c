/-
  Contracts of package charts, of charts whose stitches are knit or purl: sums, rows.
-/
import Derived.Test.YtblcphibkcjmdaaPa
namespace Go.Proofs.Ytblcphibkcjmdaa
open Go.RowKit

/-- The stitch at place o of block b. -/
def StAt (w : World) (b o : Nat) (k y : Int) : Prop := w.cell? ⟨b, o, none⟩ = some (.int .u8 k) ∧ w.cell? ⟨b, o + 1, none⟩ = some (.int .u8 y) ∧ w.cell? ⟨b, o + 2, none⟩ = some (.int .i64 0) ∧ w.cell? ⟨b, o + 3, none⟩ = some (.int .i64 0) ∧ w.cell? ⟨b, o + 4, none⟩ = some (.bool false)
/-- A row of n stitches at block b, from off on. -/
def RowAt (w : World) (b off n : Nat) (K Y : Nat → Int) : Prop := ∀ i, i < n → StAt w b (off + i * 5) (K i) (Y i)
def SimpleRow (n : Nat) (K Y : Nat → Int) : Prop := ∀ i, i < n → Simple (K i) (Y i)

theorem StAt.of_heap {w w' : World} {b o : Nat} {k y : Int} (h : StAt w b o k y) (hh : w'.heap[b]? = w.heap[b]?) : StAt w' b o k y := by
  obtain ⟨h1, h2, h3, h4, h5⟩ := h
  have e : ∀ o, w'.cell? ⟨b, o, none⟩ = w.cell? ⟨b, o, none⟩ := fun o => World.cell?_of_block hh
  exact ⟨(e _).trans h1, (e _).trans h2, (e _).trans h3, (e _).trans h4, (e _).trans h5⟩
theorem RowAt.below {w w' : World} {B b off n : Nat} {K Y : Nat → Int} (h : RowAt w b off n K Y) (hB : Below B w w') (hb : b < B) : RowAt w' b off n K Y := fun i hi => (h i hi).of_heap (hB.block b hb)

/-- A slice value over a row: nil, or at a block. -/
def RowV (w : World) (ao : Option Addr) (n : Nat) (K Y : Nat → Int) : Prop := n = 0 ∨ ∃ b off, ao = some ⟨b, off, none⟩ ∧ b < w.heap.size ∧ RowAt w b off n K Y
theorem RowV.below {w w' : World} {ao : Option Addr} {n : Nat} {K Y : Nat → Int} (h : RowV w ao n K Y) (hB : Below w.heap.size w w') : RowV w' ao n K Y := by
  rcases h with h | ⟨b, off, h1, h2, h3⟩
  · exact .inl h
  · exact .inr ⟨b, off, h1, Nat.lt_of_lt_of_le h2 hB.size, h3.below hB h2⟩

set_option maxRecDepth 20000 in
set_option maxHeartbeats 1000000 in
theorem sum_needs (n cap : Nat) (K Y : Nat → Int) (ao : Option Addr) (w : World) (hn : n ≤ 1000000) (hr : RowV w ao n K Y) (hs : SimpleRow n K Y) :
    Calls Try.prog 40 #[.slice ao n cap, .func (.func 41) #[] #[]] w (RetB (.int .i64 n) w) := by
  have HS := Lib.hid hs
  clear hs
  rcases hr with rfl | ⟨b, off, rfl, hb, hr⟩
  · go_enter Try.func40, Try.ntmps40
    go_wp2
    go_rounds 1
    go_ret
    exact ⟨rfl, Below.refl _ _⟩
  · have HR := Lib.hid hr
    clear hr
    go_enter Try.func40, Try.ntmps40
    go_wp2_with fail
    go_loopw [5, 10] (fun s i wr => ∃ k : Nat, k ≤ n ∧ s = .int .i64 k ∧ i = .int .i64 k ∧ Below w.heap.size w wr) (fun _ i _ => n - (intOf i).toNat)
    case atStart => exact ⟨0, Nat.zero_le _, rfl, rfl, Below.refl _ _⟩
    case round =>
      obtain ⟨k, hk, rfl, rfl, hB⟩ := hrel
      by_cases hkn : k < n
      · obtain ⟨h1, h2, h3, h4, h5⟩ := (HR.out.below hB hb) k hkn
        go_wp2_with fail
        refine (needs_simple _ _ _ (HS.out k hkn)).mono ?_; rintro e w1 ⟨rfl, hB1⟩
        have hC : Below w.heap.size w w1 := (hB.alloc hB.size _).trans (hB1.mono (by have := hB.size; simp; omega))
        clear hB1
        go_wp2
        go_roundw
        case rel => exact ⟨k + 1, by omega, by go_num, by go_num, hC⟩
        case measure => simp [intOf]; omega
      · obtain rfl : k = n := by omega
        go_wp2
        go_ret
        exact ⟨rfl, hB⟩

set_option maxRecDepth 20000 in
set_option maxHeartbeats 1000000 in
theorem sum_makes (n cap : Nat) (K Y : Nat → Int) (ao : Option Addr) (w : World) (hn : n ≤ 1000000) (hr : RowV w ao n K Y) (hs : SimpleRow n K Y) :
    Calls Try.prog 40 #[.slice ao n cap, .func (.func 45) #[] #[]] w (RetB (.int .i64 n) w) := by
  have HS := Lib.hid hs
  clear hs
  rcases hr with rfl | ⟨b, off, rfl, hb, hr⟩
  · go_enter Try.func40, Try.ntmps40
    go_wp2
    go_rounds 1
    go_ret
    exact ⟨rfl, Below.refl _ _⟩
  · have HR := Lib.hid hr
    clear hr
    go_enter Try.func40, Try.ntmps40
    go_wp2_with fail
    go_loopw [5, 10] (fun s i wr => ∃ k : Nat, k ≤ n ∧ s = .int .i64 k ∧ i = .int .i64 k ∧ Below w.heap.size w wr) (fun _ i _ => n - (intOf i).toNat)
    case atStart => exact ⟨0, Nat.zero_le _, rfl, rfl, Below.refl _ _⟩
    case round =>
      obtain ⟨k, hk, rfl, rfl, hB⟩ := hrel
      by_cases hkn : k < n
      · obtain ⟨h1, h2, h3, h4, h5⟩ := (HR.out.below hB hb) k hkn
        go_wp2_with fail
        refine (makes_simple _ _ _ (HS.out k hkn)).mono ?_; rintro e w1 ⟨rfl, hB1⟩
        have hC : Below w.heap.size w w1 := (hB.alloc hB.size _).trans (hB1.mono (by have := hB.size; simp; omega))
        clear hB1
        go_wp2
        go_roundw
        case rel => exact ⟨k + 1, by omega, by go_num, by go_num, hC⟩
        case measure => simp [intOf]; omega
      · obtain rfl : k = n := by omega
        go_wp2
        go_ret
        exact ⟨rfl, hB⟩

set_option maxRecDepth 20000 in
theorem needs_row (n cap : Nat) (K Y : Nat → Int) (ao : Option Addr) (w : World) (hn : n ≤ 1000000) (hr : RowV w ao n K Y) (hs : SimpleRow n K Y) : Calls Try.prog 32 #[.slice ao n cap] w (RetB (.int .i64 n) w) := by
  have HC := Lib.hid (sum_needs n cap K Y ao w hn hr hs)
  clear hr hs
  go_enter Try.func32, Try.ntmps32
  go_wp2_with fail
  refine (HC.out).mono ?_; rintro e w1 ⟨rfl, hB⟩
  go_wp2
  go_ret
  exact ⟨rfl, hB⟩
set_option maxRecDepth 20000 in
theorem makes_row (n cap : Nat) (K Y : Nat → Int) (ao : Option Addr) (w : World) (hn : n ≤ 1000000) (hr : RowV w ao n K Y) (hs : SimpleRow n K Y) : Calls Try.prog 39 #[.slice ao n cap] w (RetB (.int .i64 n) w) := by
  have HC := Lib.hid (sum_makes n cap K Y ao w hn hr hs)
  clear hr hs
  go_enter Try.func39, Try.ntmps39
  go_wp2_with fail
  refine (HC.out).mono ?_; rintro e w1 ⟨rfl, hB⟩
  go_wp2
  go_ret
  exact ⟨rfl, hB⟩

/-- Is a number of slots not possible? -/
def wrongB (n : Nat) : Bool := decide (n < 1) || decide (16 < n)
theorem wrong_any (n : Nat) (w : World) : Calls Try.prog 38 #[.int .i64 n] w fun e w' => e = .returned (.bool (wrongB n)) ∧ w = w' := by
  unfold wrongB
  have hn : n < 1 ∨ (1 ≤ n ∧ n ≤ 16) ∨ 16 < n := by omega
  rcases hn with h | ⟨h1, h2⟩ | h
  all_goals
    go_enter Try.func38, Try.ntmps38
    go_wp2
    go_ret
    exact ⟨ret_bool (by first | rfl | (rw [Bool.eq_iff_iff]; first | done | (simp; done) | (simp; omega))), rfl⟩

set_option maxRecDepth 20000 in
theorem checkRow1_simple (k y : Int) (w : World) (h : Simple k y) : Calls Try.prog 36 #[st k y] w (RetB (.bool false) w) := by
  go_enter Try.func36, Try.ntmps36
  go_wp2_with fail
  refine (check_simple k y _ h).mono ?_; rintro e w1 ⟨rfl, hB⟩
  go_wp2
  go_ret
  exact ⟨rfl, Below.trans (by go_grown) (hB.mono (by simp))⟩

set_option maxRecDepth 20000 in
set_option maxHeartbeats 1000000 in
theorem index_none (n cap : Nat) (K Y : Nat → Int) (ao : Option Addr) (w : World) (hn : n ≤ 1000000) (hr : RowV w ao n K Y) (hs : SimpleRow n K Y) :
    Calls Try.prog 44 #[.slice ao n cap, .func (.func 36) #[] #[]] w (RetB (.int .i64 (-1)) w) := by
  have HS := Lib.hid hs
  clear hs
  rcases hr with rfl | ⟨b, off, rfl, hb, hr⟩
  · go_enter Try.func44, Try.ntmps44
    go_wp2
    go_rounds 1
    go_ret
    exact ⟨rfl, Below.refl _ _⟩
  · have HR := Lib.hid hr
    clear hr
    go_enter Try.func44, Try.ntmps44
    go_wp2_with fail
    go_loopw [8] (fun i wr => ∃ k : Nat, k ≤ n ∧ i = .int .i64 k ∧ Below w.heap.size w wr) (fun i _ => n - (intOf i).toNat)
    case atStart => exact ⟨0, Nat.zero_le _, rfl, Below.refl _ _⟩
    case round =>
      obtain ⟨k, hk, rfl, hB⟩ := hrel
      by_cases hkn : k < n
      · obtain ⟨h1, h2, h3, h4, h5⟩ := (HR.out.below hB hb) k hkn
        go_wp2_with fail
        refine (checkRow1_simple _ _ _ (HS.out k hkn)).mono ?_; rintro e w1 ⟨rfl, hB1⟩
        have hC : Below w.heap.size w w1 := hB.trans (hB1.mono hB.size)
        clear hB1
        go_wp2
        go_roundw
        case rel => exact ⟨k + 1, by omega, by go_num, hC⟩
        case measure => simp [intOf]; omega
      · obtain rfl : k = n := by omega
        go_wp2
        go_ret
        exact ⟨rfl, hB⟩

set_option maxRecDepth 20000 in
theorem contains_none (n cap : Nat) (K Y : Nat → Int) (ao : Option Addr) (w : World) (hn : n ≤ 1000000) (hr : RowV w ao n K Y) (hs : SimpleRow n K Y) :
    Calls Try.prog 35 #[.slice ao n cap, .func (.func 36) #[] #[]] w (RetB (.bool false) w) := by
  have HC := Lib.hid (index_none n cap K Y ao w hn hr hs)
  clear hr hs
  go_enter Try.func35, Try.ntmps35
  go_wp2_with fail
  refine (HC.out).mono ?_; rintro e w1 ⟨rfl, hB⟩
  go_wp2
  go_ret
  exact ⟨rfl, hB⟩

/-- Why a row of n stitches, all knit or purl, is not valid. -/
def rowErr (n : Nat) : Int := if 16 < n then 3 else if n = 0 then 1 else 0
set_option maxRecDepth 20000 in
set_option maxHeartbeats 1000000 in
theorem checkRow_simple (n cap : Nat) (K Y : Nat → Int) (ao : Option Addr) (w : World) (hn : n ≤ 1000000) (hr : RowV w ao n K Y) (hs : SimpleRow n K Y) : Calls Try.prog 30 #[.slice ao n cap] w (RetB (.int .i64 (rowErr n)) w) := by
  have HR := Lib.hid hr
  have HS := Lib.hid hs
  clear hr hs
  unfold rowErr
  by_cases h16 : 16 < n
  · rw [if_pos h16]
    go_enter Try.func30, Try.ntmps30
    go_wp2
    go_ret
    exact ⟨rfl, Below.refl _ _⟩
  · rw [if_neg h16]
    by_cases h0 : n = 0
    · rw [if_pos h0]
      subst h0
      go_enter Try.func30, Try.ntmps30
      go_wp2
      go_ret
      exact ⟨rfl, Below.refl _ _⟩
    · rw [if_neg h0]
      have hw : wrongB n = false := by simp [wrongB]; omega
      have h1 : ((n : Int) == 0) = false := by simp; omega
      go_enter Try.func30, Try.ntmps30
      go_wp2_with fail
      refine (contains_none n cap K Y ao _ hn HR.out HS.out).mono ?_; rintro e w1 ⟨rfl, hB1⟩
      have HR1 := Lib.hid (HR.out.below hB1)
      go_wp2_with fail
      refine (needs_row n cap K Y ao _ hn HR1.out HS.out).mono ?_; rintro e w2 ⟨rfl, hB2⟩
      have HR2 := Lib.hid (HR1.out.below hB2)
      have hC2 := hB1.trans (hB2.mono hB1.size)
      go_wp2_with fail
      refine (wrong_any n _).mono ?_; rintro e w' ⟨rfl, rfl⟩
      go_wp2_with fail
      refine (makes_row n cap K Y ao _ hn HR2.out HS.out).mono ?_; rintro e w3 ⟨rfl, hB3⟩
      have hC3 := hC2.trans (hB3.mono hC2.size)
      go_wp2_with fail
      refine (wrong_any n _).mono ?_; rintro e w' ⟨rfl, rfl⟩
      go_wp2
      go_ret
      exact ⟨rfl, hC3⟩

end Go.Proofs.Ytblcphibkcjmdaa

/-
  The contract of gauges.at.
-/
import Derived.Test.YtknkpmckgaloaaaGb
namespace Go.Proofs.Ytknkpmckgaloaaa
open Go.RowKit

/-- The points of a slice at block b from off on: heights h, widths v. -/
def PtsAt (w : World) (b off n : Nat) (h v : Nat → Int) : Prop :=
  ∀ k, k < n → w.cell? ⟨b, off + k * 2, none⟩ = some (.int .i64 (h k)) ∧ w.cell? ⟨b, off + k * 2 + 1, none⟩ = some (.int .i64 (v k))

/-- Where the height a / b lies: from i on, the first place behind which the next point is above. -/
def seek (h : Nat → Int) (b a : Int) : Nat → Nat → Nat
  | 0, i => i
  | f + 1, i => if h (i + 1) * b ≤ a then seek h b a f (i + 1) else i

def atNum (h v : Nat → Int) (b a : Int) (i : Nat) : Int := v i * ((h (i + 1) - h i) * b) + (v (i + 1) - v i) * (a - h i * b)
def atDen (h : Nat → Int) (b : Int) (i : Nat) : Int := (h (i + 1) - h i) * b

def PtsOk (n : Nat) (h v : Nat → Int) : Prop := 2 ≤ n ∧ h 0 = 0 ∧ (∀ k, k < n → 0 ≤ h k ∧ h k ≤ 20000 ∧ 0 ≤ v k ∧ v k ≤ 20000) ∧ ∀ k, k + 1 < n → h k ≤ h (k + 1)

theorem mul_abs (x y X Y : Int) (h1 : -X ≤ x) (h2 : x ≤ X) (h3 : -Y ≤ y) (h4 : y ≤ Y) : -(X * Y) ≤ x * y ∧ x * y ≤ X * Y := by
  have hX : 0 ≤ X := by omega
  have hY : 0 ≤ Y := by omega
  have h : (x * y).natAbs ≤ (X * Y).natAbs := by
    rw [Int.natAbs_mul, Int.natAbs_mul]
    exact Nat.mul_le_mul (by omega) (by omega)
  have hp : 0 ≤ X * Y := Int.mul_nonneg hX hY
  omega

theorem seek_last (h : Nat → Int) (b a : Int) : ∀ f i, a < h (i + f) * b → (f = 0 → False) → i ≤ seek h b a f i ∧ seek h b a f i + 1 ≤ i + f ∧ a < h (seek h b a f i + 1) * b
  | 0, i, _, h0 => (h0 rfl).elim
  | f + 1, i, hl, _ => by
    unfold seek
    split
    · rename_i hc
      by_cases hf : f = 0
      · subst hf; simp only [Nat.zero_add] at hl; omega
      · obtain ⟨h1, h2, h3⟩ := seek_last h b a f (i + 1) (by rw [show i + 1 + f = i + (f + 1) by omega]; exact hl) hf
        exact ⟨by omega, by omega, h3⟩
    · rename_i hc
      exact ⟨by omega, by omega, by omega⟩

def AtPost (w : World) (num den : Int) (e : Ending) (w' : World) : Prop := e = .returned (.tuple #[.int .i64 num, .int .i64 den]) ∧ Below w.heap.size w w'

set_option maxHeartbeats 1000000 in
theorem at_end (n cap : Nat) (h v : Nat → Int) (a b : Int) (bk off : Nat) (w : World) (hn : n ≤ 100000) (hb1 : 1 ≤ b) (hb2 : b ≤ 1000) (_ha1 : 0 ≤ a) (_ha2 : a ≤ 1000000)
    (hp : PtsAt w bk off n h v) (hok : PtsOk n h v) (hend : h (n - 1) * b ≤ a) :
    Calls Try.prog 24 #[.slice (some ⟨bk, off, none⟩) n cap, .int .i64 a, .int .i64 b] w (AtPost w (v (n - 1)) 1) := by
  obtain ⟨hn2, _, hbd, _⟩ := hok
  obtain ⟨b1, b2, b3, b4⟩ := hbd (n - 1) (by omega)
  obtain ⟨m1, m2⟩ := mul_bd (h (n - 1)) b 20000 1000 b1 b2 (by omega) hb2
  obtain ⟨c1, c2⟩ := hp (n - 1) (by omega)
  clear hbd hp
  go_enter Try.func24, Try.ntmps24
  go_wp2
  go_ret2
  exact ⟨rfl, (Below.refl _ _).alloc (Nat.le_refl _) _⟩

set_option maxHeartbeats 1000000 in
theorem at_mid (n cap : Nat) (h v : Nat → Int) (a b : Int) (bk off : Nat) (w : World) (hn : n ≤ 100000) (hb1 : 1 ≤ b) (hb2 : b ≤ 1000) (ha1 : 0 ≤ a) (ha2 : a ≤ 1000000) (hlt : bk < w.heap.size)
    (hp : PtsAt w bk off n h v) (hok : PtsOk n h v) (hend : a < h (n - 1) * b) :
    Calls Try.prog 24 #[.slice (some ⟨bk, off, none⟩) n cap, .int .i64 a, .int .i64 b] w (AtPost w (atNum h v b a (seek h b a (n - 1) 0)) (atDen h b (seek h b a (n - 1) 0))) := by
  obtain ⟨hn2, _, hbd, _⟩ := hok
  obtain ⟨b1, b2, b3, b4⟩ := hbd (n - 1) (by omega)
  obtain ⟨m1, m2⟩ := mul_bd (h (n - 1)) b 20000 1000 b1 b2 (by omega) hb2
  obtain ⟨c1, c2⟩ := hp (n - 1) (by omega)
  have HB := Lib.hid hbd
  have HP := Lib.hid hp
  have HS := Lib.hid (seek_last h b a (n - 1) 0 (by rw [Nat.zero_add]; exact hend) (by omega))
  clear hbd hp
  go_enter Try.func24, Try.ntmps24
  go_wp2
  clear c1 c2 b1 b2 b3 b4
  go_loop [9] (fun i => ∃ k f : Nat, f + k = n - 1 ∧ 0 < f ∧ i = .int .i64 k ∧ seek h b a f k = seek h b a (n - 1) 0) (fun i => n - (intOf i).toNat)
  case atStart => exact ⟨0, n - 1, by omega, by omega, rfl, rfl⟩
  case round =>
    obtain ⟨k, f, hf, hf0, rfl, hs⟩ := hrel
    have HK := Lib.hid hs
    clear hs
    obtain ⟨b1, b2, b3, b4⟩ := HB.out k (by omega)
    obtain ⟨b5, b6, b7, b8⟩ := HB.out (k + 1) (by omega)
    obtain ⟨m3, m4⟩ := mul_bd (h (k + 1)) b 20000 1000 b5 b6 (by omega) hb2
    obtain ⟨c1, c2⟩ := HP.out k (by omega)
    obtain ⟨c3, c4⟩ := HP.out (k + 1) (by omega)
    obtain ⟨f', rfl⟩ : ∃ f', f = f' + 1 := ⟨f - 1, by omega⟩
    by_cases hc : h (k + 1) * b ≤ a
    · have hne : f' ≠ 0 := by
        rintro rfl
        have : n - 1 = k + 1 := by omega
        rw [this] at hend
        omega
      go_wp2
      go_round
      case rel => exact ⟨k + 1, f', by omega, by omega, by go_num, by
        rw [← HK.out]
        exact (if_pos hc).symm⟩
      case measure => simp [intOf]; omega
    · have hk : seek h b a (n - 1) 0 = k := by
        rw [← HK.out]
        exact if_neg hc
      have HK2 := Lib.hid hk
      clear HK HS hk
      obtain ⟨m5, m6⟩ := mul_abs (h (k + 1) - h k) b 20000 1000 (by omega) (by omega) (by omega) (by omega)
      obtain ⟨m7, m8⟩ := mul_abs (v k) ((h (k + 1) - h k) * b) 20000 20000000 (by omega) (by omega) (by omega) (by omega)
      obtain ⟨m9, m10⟩ := mul_bd (h k) b 20000 1000 b1 b2 (by omega) hb2
      obtain ⟨m11, m12⟩ := mul_abs (v (k + 1) - v k) (a - h k * b) 20000 21000000 (by omega) (by omega) (by omega) (by omega)
      have hlt1 : bk < w.heap.size + 1 := by omega
      have hlt2 : bk < w.heap.size + 2 := by omega
      have hlt3 : bk < w.heap.size + 1 + 1 := by omega
      go_wp2
      go_region
      all_goals go_wp2
      all_goals
        go_ret2
        rw [HK2.out]
        refine ⟨rfl, ?_⟩
        go_grown

end Go.Proofs.Ytknkpmckgaloaaa

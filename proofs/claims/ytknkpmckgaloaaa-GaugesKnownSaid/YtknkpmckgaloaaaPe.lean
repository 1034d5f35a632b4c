/-
  Even, plainly: what the two walks of Even leave is the least of what every number allows; and doing it again changes nothing.
-/
import Derived.Test.YtknkpmckgaloaaaGc
namespace Go.Proofs.Ytknkpmckgaloaaa

/-- How far apart two places are. -/
def dist (i k : Nat) : Int := if (i : Int) - k < 0 then -((i : Int) - k) else (i : Int) - k
theorem dist_self (i : Nat) : dist i i = 0 := by simp [dist]
theorem dist_mul {s a b : Int} (hs : 0 ≤ s) (h : a ≤ b) : a * s ≤ b * s := Int.mul_le_mul_of_nonneg_right h hs
theorem dist_tri (i j k : Nat) : dist i k ≤ dist j k + dist i j := by unfold dist; split <;> split <;> split <;> omega
theorem dist_bd (i k n : Nat) (hi : i < n) (hk : k < n) : 0 ≤ dist i k ∧ dist i k ≤ n := by unfold dist; split <;> omega

theorem fwd_own (l : Nat → Int) (s : Int) (i : Nat) : fwd l s i ≤ l i := by
  cases i with
  | zero => exact Int.le_refl _
  | succ i => exact Int.min_le_left _ _
theorem fwd_le (l : Nat → Int) (s : Int) (k d : Nat) : fwd l s (k + d) ≤ l k + (d : Int) * s := by
  induction d with
  | zero => simpa using fwd_own l s k
  | succ d ih =>
    have h : fwd l s (k + d + 1) ≤ fwd l s (k + d) + s := Int.min_le_right _ _
    have e : ((d + 1 : Nat) : Int) * s = (d : Int) * s + s := by rw [Int.natCast_add, Int.add_mul]; simp
    rw [e]
    show fwd l s (k + d + 1) ≤ _
    omega
theorem fwd_ex (l : Nat → Int) (s : Int) (i : Nat) : ∃ k d, i = k + d ∧ fwd l s i = l k + (d : Int) * s := by
  induction i with
  | zero => exact ⟨0, 0, rfl, by simp [fwd]⟩
  | succ i ih =>
    obtain ⟨k, d, hd, he⟩ := ih
    have e : ((d + 1 : Nat) : Int) * s = (d : Int) * s + s := by rw [Int.natCast_add, Int.add_mul]; simp
    have h : fwd l s (i + 1) = min (l (i + 1)) (fwd l s i + s) := rfl
    by_cases hc : l (i + 1) ≤ fwd l s i + s
    · exact ⟨i + 1, 0, rfl, by rw [h]; simp; omega⟩
    · exact ⟨k, d + 1, by omega, by rw [h, e]; omega⟩
theorem bwd_own (f : Nat → Int) (s : Int) (n d : Nat) : bwd f s n d ≤ f (n - 1 - d) := by
  cases d with
  | zero => exact Int.le_refl _
  | succ d => exact Int.min_le_left _ _
theorem bwd_le (f : Nat → Int) (s : Int) (n d c : Nat) : bwd f s n (d + c) ≤ f (n - 1 - d) + (c : Int) * s := by
  induction c with
  | zero => simpa using bwd_own f s n d
  | succ c ih =>
    have h : bwd f s n (d + c + 1) ≤ bwd f s n (d + c) + s := Int.min_le_right _ _
    have e : ((c + 1 : Nat) : Int) * s = (c : Int) * s + s := by rw [Int.natCast_add, Int.add_mul]; simp
    rw [e]
    show bwd f s n (d + c + 1) ≤ _
    omega
theorem bwd_ex (f : Nat → Int) (s : Int) (n d : Nat) : ∃ e c, d = e + c ∧ bwd f s n d = f (n - 1 - e) + (c : Int) * s := by
  induction d with
  | zero => exact ⟨0, 0, rfl, by simp [bwd]⟩
  | succ d ih =>
    obtain ⟨k, c, hd, he⟩ := ih
    have e : ((c + 1 : Nat) : Int) * s = (c : Int) * s + s := by rw [Int.natCast_add, Int.add_mul]; simp
    have h : bwd f s n (d + 1) = min (f (n - 1 - (d + 1))) (bwd f s n d + s) := rfl
    by_cases hc : f (n - 1 - (d + 1)) ≤ bwd f s n d + s
    · exact ⟨d + 1, 0, rfl, by rw [h]; simp; omega⟩
    · exact ⟨k, c + 1, by omega, by rw [h, e]; omega⟩

theorem even_le (l : Nat → Int) (s : Int) (n i k : Nat) (hi : i < n) (hk : k < n) : evenAt l s n i ≤ l k + dist i k * s := by
  unfold evenAt
  by_cases hc : k ≤ i
  · have h1 := bwd_own (fwd l s) s n (n - 1 - i)
    rw [show n - 1 - (n - 1 - i) = i by omega] at h1
    obtain ⟨d, rfl⟩ := Nat.exists_eq_add_of_le hc
    have h2 := fwd_le l s k d
    have e : dist (k + d) k = d := by unfold dist; split <;> omega
    rw [e]
    omega
  · obtain ⟨d, rfl⟩ := Nat.exists_eq_add_of_le (show i ≤ k by omega)
    have h1 := bwd_le (fwd l s) s n (n - 1 - (i + d)) d
    rw [show n - 1 - (n - 1 - (i + d)) = i + d by omega, show n - 1 - (i + d) + d = n - 1 - i by omega] at h1
    have h2 := fwd_own l s (i + d)
    have e : dist i (i + d) = d := by unfold dist; split <;> omega
    rw [e]
    omega
theorem even_mem (l : Nat → Int) (s : Int) (hs : 0 ≤ s) (n i : Nat) (hi : i < n) : ∃ k, k < n ∧ evenAt l s n i = l k + dist i k * s := by
  obtain ⟨e, c, h1, h2⟩ := bwd_ex (fwd l s) s n (n - 1 - i)
  obtain ⟨k, d, h3, h4⟩ := fwd_ex l s (n - 1 - e)
  have h5 := even_le l s n i k hi (by omega)
  have h6 : evenAt l s n i = l k + (d : Int) * s + (c : Int) * s := by unfold evenAt; rw [h2, h4]
  have h7 : dist i k * s ≤ ((d : Int) + c) * s := dist_mul hs (by unfold dist; split <;> omega)
  rw [Int.add_mul] at h7
  exact ⟨k, by omega, by omega⟩

/-- The least of what the first j numbers allow at i: the loop that the law runs. -/
def least (l : Nat → Int) (s : Int) (i : Nat) : Nat → Int
  | 0 => l i
  | j + 1 => min (least l s i j) (l j + dist i j * s)
theorem least_le (l : Nat → Int) (s : Int) (i k : Nat) : ∀ n, k < n → least l s i n ≤ l k + dist i k * s
  | n + 1, h => by
    have e : least l s i (n + 1) = min (least l s i n) (l n + dist i n * s) := rfl
    by_cases hk : k = n
    · subst hk; omega
    · have := least_le l s i k n (by omega); omega
theorem least_own (l : Nat → Int) (s : Int) (i : Nat) : ∀ n, least l s i n ≤ l i
  | 0 => Int.le_refl _
  | n + 1 => by
    have e : least l s i (n + 1) = min (least l s i n) (l n + dist i n * s) := rfl
    have := least_own l s i n
    omega
theorem least_ex (l : Nat → Int) (s : Int) (i : Nat) : ∀ n, least l s i n = l i ∨ ∃ k, k < n ∧ least l s i n = l k + dist i k * s
  | 0 => .inl rfl
  | n + 1 => by
    have e : least l s i (n + 1) = min (least l s i n) (l n + dist i n * s) := rfl
    by_cases hc : least l s i n ≤ l n + dist i n * s
    · rcases least_ex l s i n with h | ⟨k, hk, h⟩
      · exact .inl (by omega)
      · exact .inr ⟨k, by omega, by omega⟩
    · exact .inr ⟨n, by omega, by omega⟩
theorem least_even (l : Nat → Int) (s : Int) (hs : 0 ≤ s) (n i : Nat) (hi : i < n) : least l s i n = evenAt l s n i := by
  obtain ⟨k, hk, h1⟩ := even_mem l s hs n i hi
  have h2 := least_le l s i k n hk
  rcases least_ex l s i n with h | ⟨k', hk', h⟩
  · have h3 := even_le l s n i i hi hi
    rw [dist_self, Int.zero_mul] at h3
    omega
  · have h3 := even_le l s n i k' hi hk'
    omega
theorem least_bd (l : Nat → Int) (s : Int) (hs : 0 ≤ s) (n i : Nat) (hi : i < n) (hl : ∀ k, k < n → 0 ≤ l k ∧ l k ≤ 80000) : ∀ j, j ≤ n → 0 ≤ least l s i j ∧ least l s i j ≤ 80000
  | 0, _ => hl i hi
  | j + 1, h => by
    have e : least l s i (j + 1) = min (least l s i j) (l j + dist i j * s) := rfl
    have h1 := least_bd l s hs n i hi hl j (by omega)
    have h2 := hl j (by omega)
    have h3 : 0 ≤ dist i j * s := Int.mul_nonneg (dist_bd i j n hi (by omega)).1 hs
    omega
theorem even_bd (l : Nat → Int) (s : Int) (hs : 0 ≤ s) (n i : Nat) (hi : i < n) (hl : ∀ k, k < n → 0 ≤ l k ∧ l k ≤ 80000) : 0 ≤ evenAt l s n i ∧ evenAt l s n i ≤ 80000 := by
  rw [← least_even l s hs n i hi]
  exact least_bd l s hs n i hi hl n (Nat.le_refl _)

/-- What Even leaves, as a list. -/
def evens (l : List Int) (s : Int) : List Int := (List.range l.length).map (evenAt (lget l) s l.length)
theorem evens_len (l : List Int) (s : Int) : (evens l s).length = l.length := by simp [evens]
theorem evens_get (l : List Int) (s : Int) (k : Nat) (hk : k < l.length) : lget (evens l s) k = evenAt (lget l) s l.length k := by simp [evens, lget, hk]
theorem evens_vals (l : List Int) (s : Int) : vals (evens l s) = ints l.length (evenAt (lget l) s l.length) := by simp [vals, evens, ints]
theorem evens_twice (l : List Int) (s : Int) (hs : 0 ≤ s) : evens (evens l s) s = evens l s := by
  have H : ∀ i, i < l.length → evenAt (lget (evens l s)) s l.length i = evenAt (lget l) s l.length i := by
    intro i hi
    obtain ⟨j, hj, h1⟩ := even_mem (lget (evens l s)) s hs l.length i hi
    obtain ⟨k, hk, h2⟩ := even_mem (lget l) s hs l.length j hj
    rw [evens_get l s j hj] at h1
    have h3 := even_le (lget l) s l.length i k hi hk
    have h4 := even_le (lget (evens l s)) s l.length i i hi hi
    rw [evens_get l s i hi, dist_self, Int.zero_mul] at h4
    have h5 : dist i k * s ≤ (dist j k + dist i j) * s := dist_mul hs (dist_tri i j k)
    rw [Int.add_mul] at h5
    omega
  show (List.range (evens l s).length).map _ = _
  rw [evens_len]
  exact List.map_congr_left fun i hi => H i (List.mem_range.1 hi)

end Go.Proofs.Ytknkpmckgaloaaa

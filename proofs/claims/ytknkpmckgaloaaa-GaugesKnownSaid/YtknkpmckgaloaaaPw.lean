/-
  Widths, plainly: the law's own way to a row's width is that of Widths; an outline that becomes wider nowhere has widths that become greater nowhere.
-/
import Derived.Test.YtknkpmckgaloaaaGf
namespace Go.Proofs.Ytknkpmckgaloaaa

theorem mono_le (f : Nat → Int) (n : Nat) (hm : ∀ k, k + 1 < n → f k ≤ f (k + 1)) (i : Nat) : ∀ d, i + d < n → f i ≤ f (i + d)
  | 0, _ => Int.le_refl _
  | d + 1, h => Int.le_trans (mono_le f n hm i d (by omega)) (hm (i + d) (by omega))
theorem mono_le2 (f : Nat → Int) (n : Nat) (hm : ∀ k, k + 1 < n → f k ≤ f (k + 1)) (i j : Nat) (hij : i ≤ j) (hj : j < n) : f i ≤ f j := by
  have := mono_le f n hm i (j - i) (by omega)
  rwa [show i + (j - i) = j by omega] at this
theorem anti_le2 (f : Nat → Int) (n : Nat) (hm : ∀ k, k + 1 < n → f (k + 1) ≤ f k) (i j : Nat) (hij : i ≤ j) (hj : j < n) : f j ≤ f i := by
  have := mono_le2 (fun k => -f k) n (fun k hk => by have := hm k hk; omega) i j hij hj
  omega

theorem place_here (n : Nat) (h v : Nat → Int) (b a : Int) (hok : PtsOk n h v) (hb : 1 ≤ b) (ha : 0 ≤ a) (hc : ¬ h (n - 1) * b ≤ a) (i : Nat) (hi : i + 1 < n) : (h i * b ≤ a ∧ a < h (i + 1) * b) ↔ i = seek h b a (n - 1) 0 := by
  obtain ⟨h1, h2, h3⟩ := seek_facts n h v b a hok hb ha hc
  generalize seek h b a (n - 1) 0 = j at *
  constructor
  · rintro ⟨g1, g2⟩
    refine Classical.byContradiction fun hne => ?_
    by_cases hlt : i < j
    · have e := mono_le2 h n hok.2.2.2 (i + 1) j (by omega) (by omega)
      have := Int.mul_le_mul_of_nonneg_right e (show 0 ≤ b by omega)
      omega
    · have e := mono_le2 h n hok.2.2.2 (j + 1) i (by omega) (by omega)
      have := Int.mul_le_mul_of_nonneg_right e (show 0 ≤ b by omega)
      omega
  · rintro rfl
    exact ⟨h2, h3⟩

/-- The law's own numerator, in the place i. -/
def lawNum (h v : Nat → Int) (r a : Int) (i : Nat) : Int := v i * (h (i + 1) * 2 * r - a) + v (i + 1) * (a - h i * 2 * r)
def lawDen (h : Nat → Int) (r : Int) (i : Nat) : Int := h (i + 1) * 2 * r - h i * 2 * r
theorem law_num (h v : Nat → Int) (r a : Int) (i : Nat) : atNum h v (2 * r) a i = lawNum h v r a i := by
  unfold atNum lawNum
  rw [Int.mul_assoc (h (i + 1)), Int.mul_assoc (h i), Int.sub_mul, Int.sub_mul (v (i + 1)), Int.mul_sub, Int.mul_sub (v i), Int.mul_sub (v i), Int.mul_sub (v (i + 1))]
  omega
theorem law_den (h : Nat → Int) (r : Int) (i : Nat) : atDen h (2 * r) i = lawDen h r i := by
  unfold atDen lawDen
  rw [Int.mul_assoc (h (i + 1)), Int.mul_assoc (h i), Int.sub_mul]

/-- Both are fractions: a greater height has no greater width. -/
theorem aN_anti (n : Nat) (h v : Nat → Int) (b a a' : Int) (hok : PtsOk n h v) (hb : 1 ≤ b) (ha : 0 ≤ a) (haa : a ≤ a') (hf : ∀ k, k + 1 < n → v (k + 1) ≤ v k) :
    aN n h v b a' * aD n h b a ≤ aN n h v b a * aD n h b a' := by
  have lo : ∀ i x, i + 1 < n → h i * b ≤ x → x < h (i + 1) * b → v (i + 1) * atDen h b i ≤ atNum h v b x i ∧ atNum h v b x i ≤ v i * atDen h b i ∧ 0 < atDen h b i := by
    intro i x hi h1 h2
    have e : atNum h v b x i = v i * (h (i + 1) * b - x) + v (i + 1) * (x - h i * b) := by
      unfold atNum
      rw [Int.sub_mul, Int.sub_mul (v (i + 1)), Int.mul_sub (v i), Int.mul_sub (v i), Int.mul_sub (v (i + 1)), Int.mul_sub (v i)]
      omega
    have e2 : atDen h b i = (h (i + 1) * b - x) + (x - h i * b) := by unfold atDen; rw [Int.sub_mul]; omega
    have hv := hf i hi
    rw [e, e2, Int.mul_add, Int.mul_add]
    have m1 := Int.mul_le_mul_of_nonneg_right hv (show 0 ≤ h (i + 1) * b - x by omega)
    have m2 := Int.mul_le_mul_of_nonneg_right hv (show 0 ≤ x - h i * b by omega)
    omega
  have chain : ∀ N D N' D' y y' : Int, 0 < D → 0 < D' → y * D ≤ N → N' ≤ y' * D' → y' ≤ y → N' * D ≤ N * D' := by
    intro N D N' D' y y' hD hD' h1 h2 h3
    have m1 := Int.mul_le_mul_of_nonneg_right h2 (show 0 ≤ D by omega)
    have m2 := Int.mul_le_mul_of_nonneg_right h1 (show 0 ≤ D' by omega)
    have m3 := Int.mul_le_mul_of_nonneg_right h3 (show 0 ≤ D' * D from Int.mul_nonneg (by omega) (by omega))
    have e1 : y' * D' * D = y' * (D' * D) := Int.mul_assoc _ _ _
    have e2 : y * D * D' = y * (D' * D) := by rw [Int.mul_assoc, Int.mul_comm D]
    omega
  unfold aN aD
  by_cases hc : h (n - 1) * b ≤ a
  · rw [if_pos hc, if_pos hc, if_pos (by omega), if_pos (by omega)]
    omega
  · rw [if_neg hc, if_neg hc]
    obtain ⟨g1, g2, g3⟩ := seek_facts n h v b a hok hb ha hc
    obtain ⟨l1, l2, l3⟩ := lo _ _ g1 g2 g3
    by_cases hc' : h (n - 1) * b ≤ a'
    · rw [if_pos hc', if_pos hc']
      exact chain _ _ (v (n - 1)) 1 _ (v (n - 1)) l3 (by omega) l1 (by omega) (anti_le2 v n hf _ _ (by omega) (by omega))
    · rw [if_neg hc', if_neg hc']
      obtain ⟨g4, g5, g6⟩ := seek_facts n h v b a' hok hb (by omega) hc'
      obtain ⟨l4, l5, l6⟩ := lo _ _ g4 g5 g6
      generalize seek h b a (n - 1) 0 = i at *
      generalize seek h b a' (n - 1) 0 = j at *
      by_cases hij : i = j
      · subst hij
        refine Int.mul_le_mul_of_nonneg_right ?_ (by omega)
        unfold atNum
        have hv := hf i g1
        have m := Int.mul_le_mul_of_nonneg_left (show a - h i * b ≤ a' - h i * b by omega) (show 0 ≤ v i - v (i + 1) by omega)
        rw [Int.sub_mul (v i) _ (a - h i * b), Int.sub_mul (v i) _ (a' - h i * b)] at m
        rw [Int.sub_mul (v (i + 1)) _ (a - h i * b), Int.sub_mul (v (i + 1)) _ (a' - h i * b)]
        omega
      · have hlt : i < j := by
          refine Classical.byContradiction fun hn => ?_
          have e := mono_le2 h n hok.2.2.2 (j + 1) i (by omega) (by omega)
          have := Int.mul_le_mul_of_nonneg_right e (show 0 ≤ b by omega)
          omega
        exact chain _ _ _ _ _ _ l3 l6 l1 l5 (anti_le2 v n hf _ _ (by omega) (by omega))

theorem rnd_le2 (a b M : Int) (hb : 1 ≤ b) (h : 2 * a + b < (M + 1) * (2 * b)) : rnd a b ≤ M := by
  unfold rnd
  have h2 : (2 * a + b) / (2 * b) < M + 1 := (Int.ediv_lt_iff_lt_mul (by omega)).2 h
  omega
theorem rnd_frac (N D N' D' s : Int) (hD : 1 ≤ D) (hD' : 1 ≤ D') (hs : 0 ≤ s) (h : N' * D ≤ N * D') : rnd (N' * s) (100 * D') ≤ rnd (N * s) (100 * D) := by
  unfold rnd
  refine (Int.le_ediv_iff_mul_le (by omega)).2 ?_
  have h1 := Int.ediv_mul_le (2 * (N' * s) + 100 * D') (show 2 * (100 * D') ≠ 0 by omega)
  generalize (2 * (N' * s) + 100 * D') / (2 * (100 * D')) = q at *
  have m1 := Int.mul_le_mul_of_nonneg_right h1 (show 0 ≤ D by omega)
  have m2 := Int.mul_le_mul_of_nonneg_right h hs
  refine Int.le_of_mul_le_mul_right ?_ (show 0 < D' by omega)
  have e1 : q * (2 * (100 * D')) * D = 200 * (q * D' * D) := by
    rw [show 2 * (100 * D') = 200 * D' by omega, ← Int.mul_assoc, Int.mul_comm q 200, Int.mul_assoc, Int.mul_assoc]
    rw [← Int.mul_assoc q]
  have e2 : (2 * (N' * s) + 100 * D') * D = 2 * (N' * D * s) + 100 * (D' * D) := by
    rw [Int.add_mul, Int.mul_assoc 2, Int.mul_assoc N', Int.mul_comm s, ← Int.mul_assoc N', Int.mul_assoc 100]
  have e3 : q * (2 * (100 * D)) * D' = 200 * (q * D' * D) := by
    rw [show 2 * (100 * D) = 200 * D by omega, ← Int.mul_assoc, Int.mul_comm q 200, Int.mul_assoc, Int.mul_assoc, Int.mul_comm D, ← Int.mul_assoc q]
  have e4 : (2 * (N * s) + 100 * D) * D' = 2 * (N * D' * s) + 100 * (D' * D) := by
    rw [Int.add_mul, Int.mul_assoc 2, Int.mul_assoc N, Int.mul_comm s, ← Int.mul_assoc N, Int.mul_assoc 100, Int.mul_comm D]
  omega

theorem widthAt_falls (n : Nat) (h v : Nat → Int) (s r : Int) (hok : PtsOk n h v) (hs : 1 ≤ s) (hr : 1 ≤ r) (hr2 : r ≤ 500) (hf : ∀ k, k + 1 < n → v (k + 1) ≤ v k) (k : Nat) : widthAt n h v s r (k + 1) ≤ widthAt n h v s r k := by
  have d1 := aD_bd n h v (2 * r) (100 * (2 * (k : Int) + 1)) hok (by omega) (by omega) (by omega)
  have d2 := aD_bd n h v (2 * r) (100 * (2 * ((k + 1 : Nat) : Int) + 1)) hok (by omega) (by omega) (by omega)
  exact rnd_frac _ _ _ _ s d1.1 d2.1 (by omega) (aN_anti n h v (2 * r) _ _ hok (by omega) (by omega) (by omega) hf)

end Go.Proofs.Ytknkpmckgaloaaa

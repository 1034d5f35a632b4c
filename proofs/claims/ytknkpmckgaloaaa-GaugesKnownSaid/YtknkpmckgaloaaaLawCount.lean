/-
  GaugesCount: the law, for every input.
-/
import Derived.Test.YtknkpmckgaloaaaGh
import Derived.ProofKit
import Derived.OpenShut
import Derived.ShutString
import Derived.ChangeOld
namespace Go.Proofs.Ytknkpmckgaloaaa
open Go.ChangeShapes Go.WideShapes Go.ChangeAt Go.RowKit

theorem measure_lin (x y : Int) (hy : 1 ≤ y) : (1 ≤ rnd (100 * x) y ↔ y ≤ 200 * x) ∧ (rnd (100 * x) y ≤ 400 ↔ 200 * x < 801 * y) := by
  unfold rnd
  have h1 : 1 ≤ (2 * (100 * x) + y) / (2 * y) ↔ 1 * (2 * y) ≤ 2 * (100 * x) + y := Int.le_ediv_iff_mul_le (by omega)
  have h2 : (2 * (100 * x) + y) / (2 * y) < 401 ↔ 2 * (100 * x) + y < 401 * (2 * y) := Int.ediv_lt_iff_lt_mul (by omega)
  omega
def cB (x y : Int) : Prop := 1 ≤ x ∧ x ≤ 400 ∧ 0 ≤ y ∧ y ≤ 20000
def mB (x y : Int) : Prop := 0 ≤ x ∧ x ≤ 80000 ∧ 1 ≤ y ∧ y ≤ 20000 ∧ y ≤ 200 * x ∧ 200 * x < 801 * y
theorem measure_iff (x y : Int) : measureOk x y ↔ mB x y := by
  unfold measureOk mB
  constructor
  · rintro ⟨a, b, c, d, e, f⟩
    have := measure_lin x y c
    omega
  · rintro ⟨a, b, c, d, e, f⟩
    have := measure_lin x y c
    omega

set_option maxRecDepth 20000 in
set_option maxHeartbeats 2000000 in
theorem gaugesCount_110 (x y : Int) (hx : -9223372036854775808 ≤ x ∧ x ≤ 9223372036854775807) (hy : -9223372036854775808 ≤ y ∧ y ≤ 9223372036854775807) (w : World) (hc : countOk x y) (hl : lengthOk x y) (hm : measureOk x y) :
    Calls Try.prog 3 #[.int .i64 x, .int .i64 y] w (LivesPost w) := by
  have kc := Lib.hid (count_yes x y w hc)
  have kl := Lib.hid (length_yes x y w hl)
  have km := Lib.hid (measure_yes x y w hm)
  rw [measure_iff] at hm
  unfold mB at hm
  unfold countOk at hc
  unfold lengthOk at hl
  obtain ⟨m1, m2⟩ := mul_bd x y 400 20000 (by omega) (by omega) (by omega) (by omega)
  obtain ⟨x1, x2⟩ := hx
  obtain ⟨y1, y2⟩ := hy
  obtain ⟨hc0, hc1, hc2, hc3⟩ := hc
  obtain ⟨hl0, hl1, hl2, hl3⟩ := hl
  obtain ⟨hm0, hm1, hm2, hm3, hm4, hm5⟩ := hm
  go_enter Try.func3, Try.ntmps3
  go_wp2_with fail
  refine (kc.out).mono ?_; rintro e w' ⟨rfl, rfl⟩
  go_wp2_with fail
  refine (kl.out).mono ?_; rintro e w' ⟨rfl, rfl⟩
  go_wp2_with fail
  refine (km.out).mono ?_; rintro e w' ⟨rfl, rfl⟩
  clear kc kl km
  go_wp2_with (first
    | (go_at_call 14; refine (lives_any _).mono ?_; rintro e w1 ⟨rfl, hB⟩)
    | (go_at_call 13; refine (nearest_yes _ _ _ _ (by omega) (by omega) (by omega) (by omega) rfl).mono ?_; rintro e w' ⟨rfl, rfl⟩))
  all_goals
    go_ret
    exact ⟨rfl, hB⟩

set_option maxRecDepth 20000 in
set_option maxHeartbeats 2000000 in
theorem gaugesCount_111 (x y : Int) (hx : -9223372036854775808 ≤ x ∧ x ≤ 9223372036854775807) (hy : -9223372036854775808 ≤ y ∧ y ≤ 9223372036854775807) (w : World) (hc : countOk x y) (hl : lengthOk x y) (hm : ¬ measureOk x y) :
    Calls Try.prog 3 #[.int .i64 x, .int .i64 y] w (LivesPost w) := by
  have kc := Lib.hid (count_yes x y w hc)
  have kl := Lib.hid (length_yes x y w hl)
  have km := Lib.hid (measure_no x y w hm)
  rw [measure_iff] at hm
  unfold mB at hm
  unfold countOk at hc
  unfold lengthOk at hl
  obtain ⟨m1, m2⟩ := mul_bd x y 400 20000 (by omega) (by omega) (by omega) (by omega)
  obtain ⟨x1, x2⟩ := hx
  obtain ⟨y1, y2⟩ := hy
  obtain ⟨hc0, hc1, hc2, hc3⟩ := hc
  obtain ⟨hl0, hl1, hl2, hl3⟩ := hl
  rcases hd : decide (200 * x < 801 * y)
  all_goals
    have hq := hd
    simp only [decide_eq_true_eq, decide_eq_false_iff_not] at hq
    go_enter Try.func3, Try.ntmps3
    go_wp2_with fail
    refine (kc.out).mono ?_; rintro e w' ⟨rfl, rfl⟩
    go_wp2_with fail
    refine (kl.out).mono ?_; rintro e w' ⟨rfl, rfl⟩
    go_wp2_with fail
    refine (km.out).mono ?_; rintro e w' ⟨rfl, rfl⟩
    clear kc kl km
    go_wp2_with (first
      | (go_at_call 14; refine (lives_any _).mono ?_; rintro e w1 ⟨rfl, hB⟩)
      | (go_at_call 13; refine (nearest_yes _ _ _ _ (by omega) (by omega) (by omega) (by omega) rfl).mono ?_; rintro e w' ⟨rfl, rfl⟩))
    all_goals
      go_ret
      exact ⟨rfl, hB⟩

set_option maxRecDepth 20000 in
set_option maxHeartbeats 2000000 in
theorem gaugesCount_010 (x y : Int) (hx : -9223372036854775808 ≤ x ∧ x ≤ 9223372036854775807) (hy : -9223372036854775808 ≤ y ∧ y ≤ 9223372036854775807) (w : World) (hc : ¬ countOk x y) (hl : lengthOk x y) (hm : measureOk x y) :
    Calls Try.prog 3 #[.int .i64 x, .int .i64 y] w (LivesPost w) := by
  have kc := Lib.hid (count_no x y w hc)
  have kl := Lib.hid (length_yes x y w hl)
  have km := Lib.hid (measure_yes x y w hm)
  rw [measure_iff] at hm
  unfold mB at hm
  unfold countOk at hc
  unfold lengthOk at hl
  obtain ⟨x1, x2⟩ := hx
  obtain ⟨y1, y2⟩ := hy
  exfalso
  omega

set_option maxRecDepth 20000 in
set_option maxHeartbeats 2000000 in
theorem gaugesCount_011 (x y : Int) (hx : -9223372036854775808 ≤ x ∧ x ≤ 9223372036854775807) (hy : -9223372036854775808 ≤ y ∧ y ≤ 9223372036854775807) (w : World) (hc : ¬ countOk x y) (hl : lengthOk x y) (hm : ¬ measureOk x y) :
    Calls Try.prog 3 #[.int .i64 x, .int .i64 y] w (LivesPost w) := by
  have kc := Lib.hid (count_no x y w hc)
  have kl := Lib.hid (length_yes x y w hl)
  have km := Lib.hid (measure_no x y w hm)
  rw [measure_iff] at hm
  unfold mB at hm
  unfold countOk at hc
  unfold lengthOk at hl
  obtain ⟨x1, x2⟩ := hx
  obtain ⟨y1, y2⟩ := hy
  obtain ⟨hl0, hl1, hl2, hl3⟩ := hl
  rcases hd : decide (200 * x < 801 * y)
  all_goals
    have hq := hd
    simp only [decide_eq_true_eq, decide_eq_false_iff_not] at hq
    go_enter Try.func3, Try.ntmps3
    go_wp2_with fail
    refine (kc.out).mono ?_; rintro e w' ⟨rfl, rfl⟩
    go_wp2_with fail
    refine (kl.out).mono ?_; rintro e w' ⟨rfl, rfl⟩
    go_wp2_with fail
    refine (km.out).mono ?_; rintro e w' ⟨rfl, rfl⟩
    clear kc kl km
    go_wp2_with (first
      | (go_at_call 14; refine (lives_any _).mono ?_; rintro e w1 ⟨rfl, hB⟩)
      | (go_at_call 13; refine (nearest_yes _ _ _ _ (by omega) (by omega) (by omega) (by omega) rfl).mono ?_; rintro e w' ⟨rfl, rfl⟩))
    all_goals
      go_ret
      exact ⟨rfl, hB⟩

set_option maxRecDepth 20000 in
set_option maxHeartbeats 2000000 in
theorem gaugesCount_000 (x y : Int) (hx : -9223372036854775808 ≤ x ∧ x ≤ 9223372036854775807) (hy : -9223372036854775808 ≤ y ∧ y ≤ 9223372036854775807) (w : World) (hc : ¬ countOk x y) (hl : ¬ lengthOk x y) (hm : measureOk x y) :
    Calls Try.prog 3 #[.int .i64 x, .int .i64 y] w (LivesPost w) := by
  have kc := Lib.hid (count_no x y w hc)
  have kl := Lib.hid (length_no x y w hl)
  have km := Lib.hid (measure_yes x y w hm)
  rw [measure_iff] at hm
  unfold mB at hm
  unfold countOk at hc
  unfold lengthOk at hl
  obtain ⟨x1, x2⟩ := hx
  obtain ⟨y1, y2⟩ := hy
  obtain ⟨hm0, hm1, hm2, hm3, hm4, hm5⟩ := hm
  go_enter Try.func3, Try.ntmps3
  go_wp2_with fail
  refine (kc.out).mono ?_; rintro e w' ⟨rfl, rfl⟩
  go_wp2_with fail
  refine (kl.out).mono ?_; rintro e w' ⟨rfl, rfl⟩
  go_wp2_with fail
  refine (km.out).mono ?_; rintro e w' ⟨rfl, rfl⟩
  clear kc kl km
  go_wp2_with (first
    | (go_at_call 14; refine (lives_any _).mono ?_; rintro e w1 ⟨rfl, hB⟩)
    | (go_at_call 13; refine (nearest_yes _ _ _ _ (by omega) (by omega) (by omega) (by omega) rfl).mono ?_; rintro e w' ⟨rfl, rfl⟩))
  all_goals
    go_ret
    exact ⟨rfl, hB⟩

set_option maxRecDepth 20000 in
set_option maxHeartbeats 2000000 in
theorem gaugesCount_001 (x y : Int) (hx : -9223372036854775808 ≤ x ∧ x ≤ 9223372036854775807) (hy : -9223372036854775808 ≤ y ∧ y ≤ 9223372036854775807) (w : World) (hc : ¬ countOk x y) (hl : ¬ lengthOk x y) (hm : ¬ measureOk x y) :
    Calls Try.prog 3 #[.int .i64 x, .int .i64 y] w (LivesPost w) := by
  have kc := Lib.hid (count_no x y w hc)
  have kl := Lib.hid (length_no x y w hl)
  have km := Lib.hid (measure_no x y w hm)
  rw [measure_iff] at hm
  unfold mB at hm
  unfold countOk at hc
  unfold lengthOk at hl
  obtain ⟨x1, x2⟩ := hx
  obtain ⟨y1, y2⟩ := hy
  rcases hd : decide (200 * x < 801 * y)
  all_goals
    have hq := hd
    simp only [decide_eq_true_eq, decide_eq_false_iff_not] at hq
    go_enter Try.func3, Try.ntmps3
    go_wp2_with fail
    refine (kc.out).mono ?_; rintro e w' ⟨rfl, rfl⟩
    go_wp2_with fail
    refine (kl.out).mono ?_; rintro e w' ⟨rfl, rfl⟩
    go_wp2_with fail
    refine (km.out).mono ?_; rintro e w' ⟨rfl, rfl⟩
    clear kc kl km
    go_wp2_with (first
      | (go_at_call 14; refine (lives_any _).mono ?_; rintro e w1 ⟨rfl, hB⟩)
      | (go_at_call 13; refine (nearest_yes _ _ _ _ (by omega) (by omega) (by omega) (by omega) rfl).mono ?_; rintro e w' ⟨rfl, rfl⟩))
    all_goals
      go_ret
      exact ⟨rfl, hB⟩

set_option maxRecDepth 10000 in
theorem gaugesCount_walk (x y : Int) (hx : -9223372036854775808 ≤ x ∧ x ≤ 9223372036854775807) (hy : -9223372036854775808 ≤ y ∧ y ≤ 9223372036854775807) (w : World) :
    Calls Try.prog 3 #[.int .i64 x, .int .i64 y] w (LivesPost w) := by
  by_cases hc : countOk x y
  · have hl : lengthOk x y := by unfold countOk lengthOk at *; omega
    by_cases hm : measureOk x y
    · exact gaugesCount_110 x y hx hy w hc hl hm
    · exact gaugesCount_111 x y hx hy w hc hl hm
  · by_cases hl : lengthOk x y
    · by_cases hm : measureOk x y
      · exact gaugesCount_010 x y hx hy w hc hl hm
      · exact gaugesCount_011 x y hx hy w hc hl hm
    · by_cases hm : measureOk x y
      · exact gaugesCount_000 x y hx hy w hc hl hm
      · exact gaugesCount_001 x y hx hy w hc hl hm

namespace lawGaugesCount
theorem own : ownKnob Try.prog.godebug = none := by kernel_rfl
theorem laidOut : laidOutB Try.prog = true := by kernel_rfl

set_option maxRecDepth 100000 in
theorem lifted (os : Os) (started : os.Started) (H : Type) (enc : TypeId × Value → H) :
    ReturnsInHanded {} Try.checked os 3 .any (Rows.gaugesCountSpec.pre6 enc Try.prog Try.f3 Rows.gaugesCountRow.domain false) (Rows.gaugesCountSpec.post enc Try.prog Try.f3 false true false false) := by
  refine returnsInHanded_of_change (C := Try.checked) own started (by kernel_rfl) Try.func3
    (ChangeSpec.witness6 (enc := enc) (C := Try.checked) false ⟨#[], #[.int .i64 0, .int .i64 0], []⟩ 8 (by kernel_rfl) (by kernel_rfl) (by kernel_rfl) (by kernel_rfl)) ?_
  intro W base args ds gs before hval0 hW hcnd _
  have hval : ∀ (j : Nat) t v, Try.f3.params[j]? = some t → args[j]? = some v → Value.okWide Try.prog W .any base t v := hval0
  have hW' := hW
  obtain ⟨p, q, hA0, hV, rfl, hfz, hnd⟩ := hW
  have hA : DataW.TrodAll enc Try.prog W 0 (fun _ => true) true Try.f3.params.toList args.toList ds p := hA0
  rw [Try.params3] at hA hval
  obtain ⟨v0, vs0, d0, ds0, p0, q0, hargs, rfl, rfl, h0, r0⟩ := trodAll_cons hA
  obtain ⟨v1, vs1, d1, ds1, p1, q1, rfl, rfl, rfl, h1, r1⟩ := trodAll_cons r0
  obtain ⟨rfl, rfl, rfl⟩ := trodAll_nil r1
  obtain rfl : args = #[v0, v1] := by cases args; simp_all
  obtain ⟨rfl, rfl⟩ := trodVars_none hV
  have k0 := h0
  have lt0 : ∀ x ∈ p0, x.block < W.heap.size := by obtain ⟨m, hm⟩ := k0; exact DataW.trod_lt m _ _ _ hm
  have k1 := h1
  have lt1 : ∀ x ∈ p1, x.block < W.heap.size := by obtain ⟨m, hm⟩ := k1; exact DataW.trod_lt m _ _ _ hm
  obtain ⟨a0, rfl, rfl, rfl, w0⟩ := open_int Try.underlying3 (hval 0 3 v0 rfl rfl) h0
  obtain ⟨a1, rfl, rfl, rfl, w1⟩ := open_int Try.underlying3 (hval 1 3 v1 rfl rfl) h1
  clear hA0 hval0
  refine (gaugesCount_walk a0 a1 (by simpa [Lit.wf, IntKind.min, IntKind.max, IntKind.signed, IntKind.bits] using w0) (by simpa [Lit.wf, IntKind.min, IntKind.max, IntKind.signed, IntKind.bits] using w1) W).mono fun e W' ⟨he, bel⟩ => ?_
  subst he
  exact ⟨_, rfl, _, _, _, [], _, [], hW', trodAll_mk1 (shut_bool Try.underlying4 _), (trodAll_cons_mk (Below.trod laidOut (by kernel_rfl) (of_decide_eq_true (by kernel_rfl)) k0 bel lt0) (trodAll_cons_mk (Below.trod laidOut (by kernel_rfl) (of_decide_eq_true (by kernel_rfl)) k1 bel lt1) trodAll_mk0)), rfl, bel.frame _, fun h => by cases h⟩

theorem over : Rows.gaugesCountRow.holds Try.pinned (OpenSpec.ofChange Rows.gaugesCountSpec) :=
  OpenClaim.holds_of_wide 3 Try.f3 rfl rfl rfl rfl rfl rfl rfl ⟨rfl, rfl, rfl, rfl, rfl⟩ rfl rfl rfl rfl rfl (by kernel_rfl) Try.func3 (by kernel_rfl)
    (of_decide_eq_true (by kernel_rfl)) (by unfold Func.isWrapper; first | (rw [if_pos (by decide +kernel)]; kernel_rfl) | (rw [if_neg (by decide +kernel)]; exact ⟨rfl, rfl⟩))
    (fun os started H enc _ => lifted os started H enc)

theorem proved : Rows.GaugesCountSaid := over
end lawGaugesCount
end Go.Proofs.Ytknkpmckgaloaaa

/-
  GaugesBack: the law, for every input.
-/
import Derived.Test.YtknkpmckgaloaaaGh
import Derived.ProofKit
import Derived.OpenShut
import Derived.ShutString
import Derived.ChangeOld
namespace Go.Proofs.Ytknkpmckgaloaaa
open Go.ChangeShapes Go.WideShapes Go.ChangeAt Go.RowKit

theorem back_once (p k : Int) (hp : 1 ≤ p) (hp2 : p ≤ 100) (hk : 0 ≤ k) : rnd (p * rnd (100 * k) p) 100 = k := by
  obtain ⟨m1, m2⟩ := nearest_rnd (100 * k) p hp
  have h0 := (rnd_bd (100 * k) p (by omega) hp).1
  generalize rnd (100 * k) p = l at *
  unfold rnd
  rw [Int.mul_assoc 2 p l] at m1 m2
  by_cases h : p = 100
  · subst h
    omega
  · generalize p * l = z at *
    omega
theorem back_far (p m : Int) (hp : 1 ≤ p) (_hm : 0 ≤ m) : 2 * (p * (rnd (100 * rnd (p * m) 100) p - m)) ≤ 100 + p ∧ 2 * (p * (m - rnd (100 * rnd (p * m) 100) p)) ≤ 100 + p := by
  obtain ⟨m1, m2⟩ := nearest_rnd (p * m) 100 (by omega)
  obtain ⟨m3, m4⟩ := nearest_rnd (100 * rnd (p * m) 100) p hp
  generalize rnd (100 * rnd (p * m) 100) p = b at *
  rw [Int.mul_assoc 2 p b] at m3 m4
  rw [Int.mul_sub p, Int.mul_sub p]
  generalize p * b = y at *
  generalize p * m = z at *
  omega
theorem rnd_le (a b M : Int) (hb : 1 ≤ b) (h : 2 * a + b < (M + 1) * (2 * b)) : rnd a b ≤ M := by
  unfold rnd
  have h2 : (2 * a + b) / (2 * b) < M + 1 := (Int.ediv_lt_iff_lt_mul (by omega)).2 h
  omega

set_option maxRecDepth 20000 in
set_option maxHeartbeats 2000000 in
theorem gaugesBack_walk (a b c : Int) (ha : 0 ≤ a ∧ a ≤ 65535) (hb : 0 ≤ b ∧ b ≤ 65535) (hc : 0 ≤ c ∧ c ≤ 65535) (w : World) :
    Calls Try.prog 4 #[.int .u16 a, .int .u16 b, .int .u16 c] w (LivesPost w) := by
  obtain ⟨a1, a2⟩ := ha
  obtain ⟨b1, b2⟩ := hb
  obtain ⟨c1, c2⟩ := hc
  have p1 : 1 ≤ 1 + a % 400 := by omega
  have p2 : 1 + a % 400 ≤ 400 := by omega
  obtain ⟨k1, k2⟩ := mul_bd (b % 20001) (1 + a % 400) 20000 400 (by omega) (by omega) (by omega) (by omega)
  have k3 : 0 ≤ b % 20001 * (1 + a % 400) / 100 := by omega
  have k4 : b % 20001 * (1 + a % 400) / 100 ≤ 80000 := by omega
  have HO := Lib.hid (fun h => back_once (1 + a % 400) (b % 20001 * (1 + a % 400) / 100) p1 h k3)
  have HF := Lib.hid (back_far (1 + a % 400) (c % 20001) p1 (by omega))
  obtain ⟨l1, l2⟩ := rnd_bd (100 * (b % 20001 * (1 + a % 400) / 100)) (1 + a % 400) (by omega) (by omega)
  obtain ⟨x1, x2⟩ := mul_bd (1 + a % 400) (c % 20001) 400 20000 (by omega) (by omega) (by omega) (by omega)
  have x3 := (rnd_bd ((1 + a % 400) * (c % 20001)) 100 x1 (by omega)).1
  have x4 := rnd_le ((1 + a % 400) * (c % 20001)) 100 80000 (by omega) (by omega)
  obtain ⟨y1, y2⟩ := rnd_bd (100 * rnd ((1 + a % 400) * (c % 20001)) 100) (1 + a % 400) (by omega) (by omega)
  go_enter Try.func4, Try.ntmps4
  go_wp2_with fail
  refine (length_yes _ _ _ ⟨p1, p2, k3, k4⟩).mono ?_; rintro e w' ⟨rfl, rfl⟩
  by_cases hl : rnd (100 * (b % 20001 * (1 + a % 400) / 100)) (1 + a % 400) ≤ 20000
  · by_cases hp : (1 + a % 400) ≤ 100
    · have hne : (rnd ((1 + a % 400) * (rnd (100 * (b % 20001 * (1 + a % 400) / 100)) (1 + a % 400))) 100 != b % 20001 * (1 + a % 400) / 100) = false := by rw [HO.out hp]; simp
      go_wp2_with fail
      refine (count_yes _ _ _ ⟨p1, p2, by omega, by omega⟩).mono ?_; rintro e w' ⟨rfl, rfl⟩
      go_wp2_with fail
      refine (count_yes _ _ _ ⟨p1, p2, by omega, by omega⟩).mono ?_; rintro e w' ⟨rfl, rfl⟩
      go_wp2_with fail
      refine (length_yes _ _ _ ⟨p1, p2, x3, x4⟩).mono ?_; rintro e w' ⟨rfl, rfl⟩
      by_cases hs : rnd (100 * rnd ((1 + a % 400) * (c % 20001)) 100) (1 + a % 400) - c % 20001 < 0
      · have f1 : 0 ≤ 2 * -(rnd (100 * rnd ((1 + a % 400) * (c % 20001)) 100) (1 + a % 400) - c % 20001) * (1 + a % 400) := Int.mul_nonneg (by omega) (by omega)
        have f2 : 2 * -(rnd (100 * rnd ((1 + a % 400) * (c % 20001)) 100) (1 + a % 400) - c % 20001) * (1 + a % 400) ≤ 100 + (1 + a % 400) := by
          have := HF.out.2
          rw [Int.neg_sub, Int.mul_assoc, Int.mul_comm (c % 20001 - rnd (100 * rnd ((1 + a % 400) * (c % 20001)) 100) (1 + a % 400))]
          simpa using this
        go_wp2_with fail
        refine (lives_any _).mono ?_; rintro e w4 ⟨rfl, hB⟩
        go_wp2
        go_ret
        exact ⟨rfl, hB⟩
      · have f1 : 0 ≤ 2 * (rnd (100 * rnd ((1 + a % 400) * (c % 20001)) 100) (1 + a % 400) - c % 20001) * (1 + a % 400) := Int.mul_nonneg (by omega) (by omega)
        have f2 : 2 * (rnd (100 * rnd ((1 + a % 400) * (c % 20001)) 100) (1 + a % 400) - c % 20001) * (1 + a % 400) ≤ 100 + (1 + a % 400) := by
          have := HF.out.1
          rw [Int.mul_assoc, Int.mul_comm (rnd (100 * rnd ((1 + a % 400) * (c % 20001)) 100) (1 + a % 400) - c % 20001)]
          simpa using this
        go_wp2_with fail
        refine (lives_any _).mono ?_; rintro e w4 ⟨rfl, hB⟩
        go_wp2
        go_ret
        exact ⟨rfl, hB⟩
    · have hd : decide ((1 + a % 400) ≤ 100) = false := by simpa using hp
      go_wp2_with fail
      refine (count_yes _ _ _ ⟨p1, p2, by omega, by omega⟩).mono ?_; rintro e w' ⟨rfl, rfl⟩
      go_wp2_with fail
      refine (count_yes _ _ _ ⟨p1, p2, by omega, by omega⟩).mono ?_; rintro e w' ⟨rfl, rfl⟩
      go_wp2_with fail
      refine (length_yes _ _ _ ⟨p1, p2, x3, x4⟩).mono ?_; rintro e w' ⟨rfl, rfl⟩
      by_cases hs : rnd (100 * rnd ((1 + a % 400) * (c % 20001)) 100) (1 + a % 400) - c % 20001 < 0
      · have f1 : 0 ≤ 2 * -(rnd (100 * rnd ((1 + a % 400) * (c % 20001)) 100) (1 + a % 400) - c % 20001) * (1 + a % 400) := Int.mul_nonneg (by omega) (by omega)
        have f2 : 2 * -(rnd (100 * rnd ((1 + a % 400) * (c % 20001)) 100) (1 + a % 400) - c % 20001) * (1 + a % 400) ≤ 100 + (1 + a % 400) := by
          have := HF.out.2
          rw [Int.neg_sub, Int.mul_assoc, Int.mul_comm (c % 20001 - rnd (100 * rnd ((1 + a % 400) * (c % 20001)) 100) (1 + a % 400))]
          simpa using this
        go_wp2_with fail
        refine (lives_any _).mono ?_; rintro e w4 ⟨rfl, hB⟩
        go_wp2
        go_ret
        exact ⟨rfl, hB⟩
      · have f1 : 0 ≤ 2 * (rnd (100 * rnd ((1 + a % 400) * (c % 20001)) 100) (1 + a % 400) - c % 20001) * (1 + a % 400) := Int.mul_nonneg (by omega) (by omega)
        have f2 : 2 * (rnd (100 * rnd ((1 + a % 400) * (c % 20001)) 100) (1 + a % 400) - c % 20001) * (1 + a % 400) ≤ 100 + (1 + a % 400) := by
          have := HF.out.1
          rw [Int.mul_assoc, Int.mul_comm (rnd (100 * rnd ((1 + a % 400) * (c % 20001)) 100) (1 + a % 400) - c % 20001)]
          simpa using this
        go_wp2_with fail
        refine (lives_any _).mono ?_; rintro e w4 ⟨rfl, hB⟩
        go_wp2
        go_ret
        exact ⟨rfl, hB⟩
  · have hd : decide (rnd (100 * (b % 20001 * (1 + a % 400) / 100)) (1 + a % 400) ≤ 20000) = false := by simpa using hl
    by_cases hp : (1 + a % 400) ≤ 100
    · go_wp2_with fail
      refine (count_yes _ _ _ ⟨p1, p2, by omega, by omega⟩).mono ?_; rintro e w' ⟨rfl, rfl⟩
      go_wp2_with fail
      refine (count_yes _ _ _ ⟨p1, p2, by omega, by omega⟩).mono ?_; rintro e w' ⟨rfl, rfl⟩
      go_wp2_with fail
      refine (length_yes _ _ _ ⟨p1, p2, x3, x4⟩).mono ?_; rintro e w' ⟨rfl, rfl⟩
      by_cases hs : rnd (100 * rnd ((1 + a % 400) * (c % 20001)) 100) (1 + a % 400) - c % 20001 < 0
      · have f1 : 0 ≤ 2 * -(rnd (100 * rnd ((1 + a % 400) * (c % 20001)) 100) (1 + a % 400) - c % 20001) * (1 + a % 400) := Int.mul_nonneg (by omega) (by omega)
        have f2 : 2 * -(rnd (100 * rnd ((1 + a % 400) * (c % 20001)) 100) (1 + a % 400) - c % 20001) * (1 + a % 400) ≤ 100 + (1 + a % 400) := by
          have := HF.out.2
          rw [Int.neg_sub, Int.mul_assoc, Int.mul_comm (c % 20001 - rnd (100 * rnd ((1 + a % 400) * (c % 20001)) 100) (1 + a % 400))]
          simpa using this
        go_wp2_with fail
        refine (lives_any _).mono ?_; rintro e w4 ⟨rfl, hB⟩
        go_wp2
        go_ret
        exact ⟨rfl, hB⟩
      · have f1 : 0 ≤ 2 * (rnd (100 * rnd ((1 + a % 400) * (c % 20001)) 100) (1 + a % 400) - c % 20001) * (1 + a % 400) := Int.mul_nonneg (by omega) (by omega)
        have f2 : 2 * (rnd (100 * rnd ((1 + a % 400) * (c % 20001)) 100) (1 + a % 400) - c % 20001) * (1 + a % 400) ≤ 100 + (1 + a % 400) := by
          have := HF.out.1
          rw [Int.mul_assoc, Int.mul_comm (rnd (100 * rnd ((1 + a % 400) * (c % 20001)) 100) (1 + a % 400) - c % 20001)]
          simpa using this
        go_wp2_with fail
        refine (lives_any _).mono ?_; rintro e w4 ⟨rfl, hB⟩
        go_wp2
        go_ret
        exact ⟨rfl, hB⟩
    · have hd : decide ((1 + a % 400) ≤ 100) = false := by simpa using hp
      go_wp2_with fail
      refine (count_yes _ _ _ ⟨p1, p2, by omega, by omega⟩).mono ?_; rintro e w' ⟨rfl, rfl⟩
      go_wp2_with fail
      refine (count_yes _ _ _ ⟨p1, p2, by omega, by omega⟩).mono ?_; rintro e w' ⟨rfl, rfl⟩
      go_wp2_with fail
      refine (length_yes _ _ _ ⟨p1, p2, x3, x4⟩).mono ?_; rintro e w' ⟨rfl, rfl⟩
      by_cases hs : rnd (100 * rnd ((1 + a % 400) * (c % 20001)) 100) (1 + a % 400) - c % 20001 < 0
      · have f1 : 0 ≤ 2 * -(rnd (100 * rnd ((1 + a % 400) * (c % 20001)) 100) (1 + a % 400) - c % 20001) * (1 + a % 400) := Int.mul_nonneg (by omega) (by omega)
        have f2 : 2 * -(rnd (100 * rnd ((1 + a % 400) * (c % 20001)) 100) (1 + a % 400) - c % 20001) * (1 + a % 400) ≤ 100 + (1 + a % 400) := by
          have := HF.out.2
          rw [Int.neg_sub, Int.mul_assoc, Int.mul_comm (c % 20001 - rnd (100 * rnd ((1 + a % 400) * (c % 20001)) 100) (1 + a % 400))]
          simpa using this
        go_wp2_with fail
        refine (lives_any _).mono ?_; rintro e w4 ⟨rfl, hB⟩
        go_wp2
        go_ret
        exact ⟨rfl, hB⟩
      · have f1 : 0 ≤ 2 * (rnd (100 * rnd ((1 + a % 400) * (c % 20001)) 100) (1 + a % 400) - c % 20001) * (1 + a % 400) := Int.mul_nonneg (by omega) (by omega)
        have f2 : 2 * (rnd (100 * rnd ((1 + a % 400) * (c % 20001)) 100) (1 + a % 400) - c % 20001) * (1 + a % 400) ≤ 100 + (1 + a % 400) := by
          have := HF.out.1
          rw [Int.mul_assoc, Int.mul_comm (rnd (100 * rnd ((1 + a % 400) * (c % 20001)) 100) (1 + a % 400) - c % 20001)]
          simpa using this
        go_wp2_with fail
        refine (lives_any _).mono ?_; rintro e w4 ⟨rfl, hB⟩
        go_wp2
        go_ret
        exact ⟨rfl, hB⟩

namespace lawGaugesBack
theorem own : ownKnob Try.prog.godebug = none := by kernel_rfl
theorem laidOut : laidOutB Try.prog = true := by kernel_rfl

set_option maxRecDepth 100000 in
theorem lifted (os : Os) (started : os.Started) (H : Type) (enc : TypeId × Value → H) :
    ReturnsInHanded {} Try.checked os 4 .any (Rows.gaugesBackSpec.pre6 enc Try.prog Try.f4 Rows.gaugesBackRow.domain false) (Rows.gaugesBackSpec.post enc Try.prog Try.f4 false true false false) := by
  refine returnsInHanded_of_change (C := Try.checked) own started (by kernel_rfl) Try.func4
    (ChangeSpec.witness6 (enc := enc) (C := Try.checked) false ⟨#[], #[.int .u16 0, .int .u16 0, .int .u16 0], []⟩ 8 (by kernel_rfl) (by kernel_rfl) (by kernel_rfl) (by kernel_rfl)) ?_
  intro W base args ds gs before hval0 hW hcnd _
  have hval : ∀ (j : Nat) t v, Try.f4.params[j]? = some t → args[j]? = some v → Value.okWide Try.prog W .any base t v := hval0
  have hW' := hW
  obtain ⟨p, q, hA0, hV, rfl, hfz, hnd⟩ := hW
  have hA : DataW.TrodAll enc Try.prog W 0 (fun _ => true) true Try.f4.params.toList args.toList ds p := hA0
  rw [Try.params4] at hA hval
  obtain ⟨v0, vs0, d0, ds0, p0, q0, hargs, rfl, rfl, h0, r0⟩ := trodAll_cons hA
  obtain ⟨v1, vs1, d1, ds1, p1, q1, rfl, rfl, rfl, h1, r1⟩ := trodAll_cons r0
  obtain ⟨v2, vs2, d2, ds2, p2, q2, rfl, rfl, rfl, h2, r2⟩ := trodAll_cons r1
  obtain ⟨rfl, rfl, rfl⟩ := trodAll_nil r2
  obtain rfl : args = #[v0, v1, v2] := by cases args; simp_all
  obtain ⟨rfl, rfl⟩ := trodVars_none hV
  have k0 := h0
  have lt0 : ∀ x ∈ p0, x.block < W.heap.size := by obtain ⟨m, hm⟩ := k0; exact DataW.trod_lt m _ _ _ hm
  have k1 := h1
  have lt1 : ∀ x ∈ p1, x.block < W.heap.size := by obtain ⟨m, hm⟩ := k1; exact DataW.trod_lt m _ _ _ hm
  have k2 := h2
  have lt2 : ∀ x ∈ p2, x.block < W.heap.size := by obtain ⟨m, hm⟩ := k2; exact DataW.trod_lt m _ _ _ hm
  obtain ⟨a0, rfl, rfl, rfl, w0⟩ := open_int Try.underlying28 (hval 0 28 v0 rfl rfl) h0
  obtain ⟨a1, rfl, rfl, rfl, w1⟩ := open_int Try.underlying28 (hval 1 28 v1 rfl rfl) h1
  obtain ⟨a2, rfl, rfl, rfl, w2⟩ := open_int Try.underlying28 (hval 2 28 v2 rfl rfl) h2
  clear hA0 hval0
  refine (gaugesBack_walk a0 a1 a2 (by simpa [Lit.wf, IntKind.min, IntKind.max, IntKind.signed, IntKind.bits] using w0) (by simpa [Lit.wf, IntKind.min, IntKind.max, IntKind.signed, IntKind.bits] using w1) (by simpa [Lit.wf, IntKind.min, IntKind.max, IntKind.signed, IntKind.bits] using w2) W).mono fun e W' ⟨he, bel⟩ => ?_
  subst he
  exact ⟨_, rfl, _, _, _, [], _, [], hW', trodAll_mk1 (shut_bool Try.underlying4 _), (trodAll_cons_mk (Below.trod laidOut (by kernel_rfl) (of_decide_eq_true (by kernel_rfl)) k0 bel lt0) (trodAll_cons_mk (Below.trod laidOut (by kernel_rfl) (of_decide_eq_true (by kernel_rfl)) k1 bel lt1) (trodAll_cons_mk (Below.trod laidOut (by kernel_rfl) (of_decide_eq_true (by kernel_rfl)) k2 bel lt2) trodAll_mk0))), rfl, bel.frame _, fun h => by cases h⟩

theorem over : Rows.gaugesBackRow.holds Try.pinned (OpenSpec.ofChange Rows.gaugesBackSpec) :=
  OpenClaim.holds_of_wide 4 Try.f4 rfl rfl rfl rfl rfl rfl rfl ⟨rfl, rfl, rfl, rfl, rfl⟩ rfl rfl rfl rfl rfl (by kernel_rfl) Try.func4 (by kernel_rfl)
    (of_decide_eq_true (by kernel_rfl)) (by unfold Func.isWrapper; first | (rw [if_pos (by decide +kernel)]; kernel_rfl) | (rw [if_neg (by decide +kernel)]; exact ⟨rfl, rfl⟩))
    (fun os started H enc _ => lifted os started H enc)

theorem proved : Rows.GaugesBackSaid := over
end lawGaugesBack
end Go.Proofs.Ytknkpmckgaloaaa

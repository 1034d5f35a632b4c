/-
  GaugesKnown: the law, for every input.
-/
import Derived.Test.YtknkpmckgaloaaaLawCount
import Derived.Test.YtknkpmckgaloaaaLawBack
import Derived.Test.YtknkpmckgaloaaaLawSpread
import Derived.Test.YtknkpmckgaloaaaLawWidths
import Derived.Test.YtknkpmckgaloaaaLawEven
import Derived.ProofKit
import Derived.OpenShut
import Derived.ShutString
import Derived.ChangeOld
namespace Go.Proofs.Ytknkpmckgaloaaa
open Go.ChangeShapes Go.WideShapes Go.ChangeAt Go.RowKit

theorem u16_bd (x : Int) : 0 ≤ IntKind.u16.wrap x ∧ IntKind.u16.wrap x ≤ 65535 := by
  simp [IntKind.wrap, IntKind.signed, IntKind.bits]
  omega
theorem u8_bd (x : Int) : 0 ≤ IntKind.u8.wrap x ∧ IntKind.u8.wrap x ≤ 255 := by
  simp [IntKind.wrap, IntKind.signed, IntKind.bits]
  omega
def three (x y z : Int) : Nat → Int
  | 0 => x
  | 1 => y
  | _ => z
theorem known_widths (a b x0 y0 x1 y1 x2 y2 : Int) (w : World) (bk : Nat) (ha : 0 ≤ a ∧ a ≤ 65535) (hb : 0 ≤ b ∧ b ≤ 65535) (h0 : 0 ≤ x0 ∧ x0 ≤ 255) (h1 : 0 ≤ y0 ∧ y0 ≤ 255) (h2 : 0 ≤ x1 ∧ x1 ≤ 255) (h3 : 0 ≤ y1 ∧ y1 ≤ 255) (h4 : 0 ≤ x2 ∧ x2 ≤ 255) (h5 : 0 ≤ y2 ∧ y2 ≤ 255) (hbk : bk < w.heap.size)
    (c0 : w.cell? ⟨bk, 0, none⟩ = some (.int .u8 x0)) (c1 : w.cell? ⟨bk, 1, none⟩ = some (.int .u8 y0)) (c2 : w.cell? ⟨bk, 2, none⟩ = some (.int .u8 x1)) (c3 : w.cell? ⟨bk, 3, none⟩ = some (.int .u8 y1)) (c4 : w.cell? ⟨bk, 4, none⟩ = some (.int .u8 x2)) (c5 : w.cell? ⟨bk, 5, none⟩ = some (.int .u8 y2)) :
    Calls Try.prog 6 #[.int .u16 a, .int .u16 b, .slice (some ⟨bk, 0, none⟩) 3 3] w (LivesPost w) := by
  refine gaugesWidths_walk a b 3 3 (three x0 x1 x2) (three y0 y1 y2) _ w ha hb (by unfold maxLen; omega) (fun k hk => ?_) (.inr ⟨bk, 0, rfl, hbk, fun k hk => ?_⟩)
  · match k, hk with
    | 0, _ => exact ⟨h0, h1⟩
    | 1, _ => exact ⟨h2, h3⟩
    | 2, _ => exact ⟨h4, h5⟩
  · match k, hk with
    | 0, _ => exact ⟨c0, c1⟩
    | 1, _ => exact ⟨c2, c3⟩
    | 2, _ => exact ⟨c4, c5⟩
theorem known_even (x0 x1 x2 x3 x4 s : Int) (w : World) (bk : Nat) (hs : 0 ≤ s ∧ s ≤ 100) (h : (0 ≤ x0 ∧ x0 ≤ 1000) ∧ (0 ≤ x1 ∧ x1 ≤ 1000) ∧ (0 ≤ x2 ∧ x2 ≤ 1000) ∧ (0 ≤ x3 ∧ x3 ≤ 1000) ∧ (0 ≤ x4 ∧ x4 ≤ 1000)) (hbk : bk < w.heap.size)
    (c0 : w.cell? ⟨bk, 0, none⟩ = some (.int .i64 x0)) (c1 : w.cell? ⟨bk, 1, none⟩ = some (.int .i64 x1)) (c2 : w.cell? ⟨bk, 2, none⟩ = some (.int .i64 x2)) (c3 : w.cell? ⟨bk, 3, none⟩ = some (.int .i64 x3)) (c4 : w.cell? ⟨bk, 4, none⟩ = some (.int .i64 x4)) :
    Calls Try.prog 8 #[.slice (some ⟨bk, 0, none⟩) 5 5, .int .i64 s] w (LivesPost w) := by
  refine gaugesEven_walk [x0, x1, x2, x3, x4] s _ 5 w (by simp [maxLen]) (by omega) (fun k => ?_) (.inr ⟨bk, 0, rfl, hbk, fun k hk => ?_⟩)
  · match k with
    | 0 => simp only [lget, List.getD_cons_zero]; omega
    | 1 => simp only [lget, List.getD_cons_succ, List.getD_cons_zero]; omega
    | 2 => simp only [lget, List.getD_cons_succ, List.getD_cons_zero]; omega
    | 3 => simp only [lget, List.getD_cons_succ, List.getD_cons_zero]; omega
    | 4 => simp only [lget, List.getD_cons_succ, List.getD_cons_zero]; omega
    | k + 5 => simp [lget]
  · match k, hk with
    | 0, _ => exact c0
    | 1, _ => exact c1
    | 2, _ => exact c2
    | 3, _ => exact c3
    | 4, _ => exact c4
theorem known_zeros (n : Nat) (i : Nat) : lget (List.replicate n 0) i = 0 := by
  simp only [lget, List.getD_eq_getElem?_getD, List.getElem?_replicate]
  split <;> rfl
def OkPost (w : World) (c : Int) (e : Ending) (w' : World) : Prop := ∃ ao m cp, e = .returned (.tuple #[.slice ao m cp, .int .i64 c]) ∧ Below w.heap.size w w'
theorem known_many (w : World) (bk : Nat) (hr : Row w bk 3 (ints 401 fun _ => 0)) :
    Calls Try.prog 19 #[.slice (some ⟨bk, 0, none⟩) 401 401, .int .i64 0] w (OkPost w 3) := by
  have h := even_limit (List.replicate 401 0) 0 bk 0 401 w (by rw [List.length_replicate]; omega) (by rw [List.length_replicate]; omega) (by omega) (fun k hk => by
    rw [known_zeros, Nat.zero_add]
    exact hr.cell (ints_get _ (by rwa [List.length_replicate] at hk))) (fun k _ => by rw [known_zeros]; omega)
  rw [List.length_replicate] at h
  refine h.mono ?_
  rintro e w' ⟨rfl, rfl⟩
  exact ⟨_, _, _, rfl, Below.refl _ _⟩
theorem known_most (w : World) (bk : Nat) (hr : Row w bk 3 (ints 400 fun _ => 0)) :
    Calls Try.prog 19 #[.slice (some ⟨bk, 0, none⟩) 400 400, .int .i64 0] w (OkPost w 0) := by
  have h := even_any (List.replicate 400 0) 0 (some ⟨bk, 0, none⟩) 400 w (by rw [List.length_replicate]; omega) (by omega) (fun k _ => by rw [known_zeros]; omega) (.inr ⟨bk, 0, rfl, hr.lt, fun k hk => by
    rw [known_zeros, Nat.zero_add]
    exact hr.cell (ints_get _ (by rwa [List.length_replicate] at hk))⟩)
  rw [List.length_replicate] at h
  refine h.mono ?_
  rintro e w' ⟨rfl, _, hB⟩
  exact ⟨_, _, _, by rw [List.length_replicate], hB⟩
theorem known_rows (w : World) (bk : Nat) (hlt : bk < w.heap.size) (c0 : w.cell? ⟨bk, 0, none⟩ = some (.int .i64 0)) (c1 : w.cell? ⟨bk, 1, none⟩ = some (.int .i64 100)) (c2 : w.cell? ⟨bk, 2, none⟩ = some (.int .i64 101)) (c3 : w.cell? ⟨bk, 3, none⟩ = some (.int .i64 100)) :
    Calls Try.prog 17 #[.agg #[.int .i64 1, .int .i64 400], .slice (some ⟨bk, 0, none⟩) 2 2] w (OkPost w 3) := by
  refine (widths_limit 2 2 (three 0 101 0) (three 100 100 0) 1 400 bk 0 w (by omega) hlt (fun k hk => ?_) ⟨by omega, rfl, fun k hk => ?_⟩ ⟨by omega, by omega, by omega, by omega⟩ (by decide)).mono ?_
  · match k, hk with
    | 0, _ => exact ⟨c0, c1⟩
    | 1, _ => exact ⟨c2, c3⟩
  · match k, hk with
    | 0, _ => exact ⟨by decide, by decide, by decide, by decide, by decide⟩
    | 1, _ => exact ⟨by decide, by decide, by decide, by decide, by decide⟩
  · rintro e w' ⟨rfl, hB⟩
    exact ⟨_, _, _, rfl, hB⟩

set_option maxRecDepth 20000 in
set_option maxHeartbeats 8000000 in
theorem gaugesKnown_walk (w : World) : Calls Try.prog 9 #[] w (LivesPost w) := by
  have hm1 : ∀ w, (Instr.makeSlice 31 (.int .i64 401) (.int .i64 401)).run Try.prog w = .ok (.slice (some ⟨w.heap.size, 0, none⟩) 401 401) (w.alloc (.cells (ints 401 fun _ => 0).toArray 3)) := make_ints 401 (by omega)
  have hm2 : ∀ w, (Instr.makeSlice 31 (.int .i64 400) (.int .i64 400)).run Try.prog w = .ok (.slice (some ⟨w.heap.size, 0, none⟩) 400 400) (w.alloc (.cells (ints 400 fun _ => 0).toArray 3)) := make_ints 400 (by omega)
  have HM1 := Lib.hid hm1
  have HM2 := Lib.hid hm2
  clear hm1 hm2
  go_enter Try.func9, Try.ntmps9
  go_wp2_with fail
  go_loopw [1, 2] (fun x i wr => ∃ (k : Int) (n : Nat), 0 ≤ k ∧ k ≤ 100002 ∧ n ≤ 60 ∧ x = .int .i64 k ∧ i = .int .i64 n ∧ Below w.heap.size w wr) (fun _ i _ => 60 - (intOf i).toNat)
  case atStart => exact ⟨1, 0, by omega, by omega, by omega, rfl, rfl, Below.refl _ _⟩
  case round =>
    obtain ⟨k, n, hk1, hk2, hn, rfl, rfl, hB⟩ := hrel
    by_cases hlt : n < 60
    · have b1 := u16_bd k
      have b5 := u16_bd (k * 3)
      have B1 := Lib.hid b1
      have B5 := Lib.hid b5
      clear b1 b5
      go_wp2_with fail
      refine (known_widths _ _ (k % 256) (k / 3 % 256) 0 (k / 7 % 256) n 30 _ _ B1.out (by omega) (by omega) (by omega) (by omega) (by omega) (by omega) (by omega) (by simp) (by simp [go_sem]) (by simp [go_sem]) (by simp [go_sem]) (by simp [go_sem]) (by simp [go_sem]) (by simp [go_sem])).mono ?_; rintro e w1 ⟨rfl, hB1⟩
      have hC1 : Below w.heap.size w w1 := (hB.alloc hB.size _).trans (hB1.mono (by have := hB.size; simp; omega))
      clear hB1
      go_wp2_with fail
      refine (gaugesBack_walk _ _ _ (by omega) B1.out B5.out _).mono ?_; rintro e w2 ⟨rfl, hB2⟩
      have hC2 := hC1.trans (hB2.mono hC1.size)
      clear hB2 hC1
      go_wp2_with fail
      refine (gaugesSpread_walk _ _ _ _ (by omega) (by omega) (by omega) (by omega) _).mono ?_; rintro e w3 ⟨rfl, hB3⟩
      have hC3 := hC2.trans (hB3.mono hC2.size)
      clear hB3 hC2
      go_wp2_with fail
      refine (known_even (k % 100) n 0 (7 * n) 90 (n % 9) _ _ (by omega) (by omega) (by simp) (by simp [go_sem]) (by simp [go_sem]) (by simp [go_sem]) (by simp [go_sem]) (by simp [go_sem])).mono ?_; rintro e w4 ⟨rfl, hB4⟩
      have hC4 : Below w.heap.size w w4 := (hC3.alloc hC3.size _).trans (hB4.mono (by have := hC3.size; simp; omega))
      clear hB4 hC3
      go_wp2
      go_roundw
      case rel => exact ⟨_, n + 1, by omega, by omega, by omega, rfl, by go_num, hC4⟩
      case measure => simp [intOf]; omega
    · have hm1 := HM1.out
      have hm2 := HM2.out
      go_wp2_with fail
      refine (known_many _ _ (Row.new _ _ _)).mono ?_; rintro e w1 ⟨ao1, m1, p1, rfl, hB1⟩
      have hC1 : Below w.heap.size w w1 := (hB.alloc hB.size _).trans (hB1.mono (by have := hB.size; simp; omega))
      clear hB1
      go_wp2_with fail
      refine (known_most _ _ (Row.new _ _ _)).mono ?_; rintro e w2 ⟨ao2, m2, p2, rfl, hB2⟩
      have hC2 : Below w.heap.size w w2 := (hC1.alloc hC1.size _).trans (hB2.mono (by have := hC1.size; simp; omega))
      clear hB2 hC1
      go_wp2_with fail
      refine (known_rows _ _ (by simp) (by simp [go_sem]) (by simp [go_sem]) (by simp [go_sem]) (by simp [go_sem])).mono ?_; rintro e w3 ⟨ao3, m3, p3, rfl, hB3⟩
      have hC3 : Below w.heap.size w w3 := (hC2.alloc hC2.size _).trans (hB3.mono (by have := hC2.size; simp; omega))
      clear hB3 hC2
      clear hm1 hm2
      go_wp2_with fail
      refine (gaugesCount_walk _ _ (by omega) (by omega) _).mono ?_; rintro e w4 ⟨rfl, hB4⟩
      have hC4 := hC3.trans (hB4.mono hC3.size)
      clear hB4 hC3
      go_wp2_with fail
      refine (gaugesCount_walk _ _ (by omega) (by omega) _).mono ?_; rintro e w5 ⟨rfl, hB5⟩
      have hC5 := hC4.trans (hB5.mono hC4.size)
      clear hB5 hC4
      go_wp2_with fail
      refine (gaugesCount_walk _ _ (by omega) (by omega) _).mono ?_; rintro e w6 ⟨rfl, hB6⟩
      have hC6 := hC5.trans (hB6.mono hC5.size)
      clear hB6 hC5
      go_wp2_with fail
      refine (lives_any _).mono ?_; rintro e w7 ⟨rfl, hB7⟩
      go_wp2
      go_ret
      exact ⟨rfl, hC6.trans (hB7.mono hC6.size)⟩

namespace lawGaugesKnown
theorem own : ownKnob Try.prog.godebug = none := by kernel_rfl
theorem laidOut : laidOutB Try.prog = true := by kernel_rfl

set_option maxRecDepth 100000 in
theorem lifted (os : Os) (started : os.Started) (H : Type) (enc : TypeId × Value → H) :
    ReturnsInHanded {} Try.checked os 9 .any (Rows.gaugesKnownSpec.pre6 enc Try.prog Try.f9 Rows.gaugesKnownRow.domain false) (Rows.gaugesKnownSpec.post enc Try.prog Try.f9 false true false false) := by
  refine returnsInHanded_of_change (C := Try.checked) own started (by kernel_rfl) Try.func9
    (ChangeSpec.witness6 (enc := enc) (C := Try.checked) false ⟨#[], #[], []⟩ 8 (by kernel_rfl) (by kernel_rfl) (by kernel_rfl) (by kernel_rfl)) ?_
  intro W base args ds gs before hval0 hW hcnd _
  have hval : ∀ (j : Nat) t v, Try.f9.params[j]? = some t → args[j]? = some v → Value.okWide Try.prog W .any base t v := hval0
  have hW' := hW
  obtain ⟨p, q, hA0, hV, rfl, hfz, hnd⟩ := hW
  have hA : DataW.TrodAll enc Try.prog W 0 (fun _ => true) true Try.f9.params.toList args.toList ds p := hA0
  rw [Try.params9] at hA hval
  obtain ⟨hargs, rfl, rfl⟩ := trodAll_nil hA
  obtain rfl : args = #[] := by cases args; simp_all
  obtain ⟨rfl, rfl⟩ := trodVars_none hV
  clear hA0 hval0
  refine (gaugesKnown_walk W).mono fun e W' ⟨he, bel⟩ => ?_
  subst he
  exact ⟨_, rfl, _, _, _, [], _, [], hW', trodAll_mk1 (shut_bool Try.underlying4 _), trodAll_mk0, rfl, bel.frame _, fun h => by cases h⟩

theorem over : Rows.gaugesKnownRow.holds Try.pinned (OpenSpec.ofChange Rows.gaugesKnownSpec) :=
  OpenClaim.holds_of_wide 9 Try.f9 rfl rfl rfl rfl rfl rfl rfl ⟨rfl, rfl, rfl, rfl, rfl⟩ rfl rfl rfl rfl rfl (by kernel_rfl) Try.func9 (by kernel_rfl)
    (of_decide_eq_true (by kernel_rfl)) (by unfold Func.isWrapper; first | (rw [if_pos (by decide +kernel)]; kernel_rfl) | (rw [if_neg (by decide +kernel)]; exact ⟨rfl, rfl⟩))
    (fun os started H enc _ => lifted os started H enc)

theorem proved : Rows.GaugesKnownSaid := over
end lawGaugesKnown
end Go.Proofs.Ytknkpmckgaloaaa

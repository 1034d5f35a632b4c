/-
  GaugesErrors: the law, for every input.
-/
import Derived.Test.YtknkpmckgaloaaaOpen
import Derived.ProofKit
import Derived.OpenShut
import Derived.ShutString
import Derived.ChangeOld
namespace Go.Proofs.Ytknkpmckgaloaaa
open Go.ChangeShapes Go.WideShapes Go.ChangeAt Go.RowKit

/-- What Widths can answer, if the arguments are good or not. -/
def Answer (good : Bool) (m : Nat) (c : Int) : Prop := (good = false ∧ c = 1 ∧ m = 0) ∨ (good = true ∧ c = 0 ∧ 1 ≤ m ∧ m ≤ 400) ∨ (good = true ∧ (c = 3 ∨ c = 14) ∧ m = 0)
def AnyPost (good : Bool) (w : World) (e : Ending) (w' : World) : Prop := ∃ ao m cp c, e = .returned (.tuple #[.slice ao m cp, .int .i64 c]) ∧ Answer good m c ∧ Below w.heap.size w w'

theorem errpost_bad {w : World} {e : Ending} {w' : World} (h : ErrPost w 1 e w') : AnyPost false w e w' := ⟨none, 0, 0, 1, h.1, .inl ⟨rfl, rfl, rfl⟩, h.2⟩
theorem errpost_big {w : World} {e : Ending} {w' : World} (h : ErrPost w 3 e w') : AnyPost true w e w' := ⟨none, 0, 0, 3, h.1, .inr (.inr ⟨rfl, .inl rfl, rfl⟩), h.2⟩
theorem errpost_zero {w : World} {e : Ending} {w' : World} (h : ErrPost w 14 e w') : AnyPost true w e w' := ⟨none, 0, 0, 14, h.1, .inr (.inr ⟨rfl, .inr rfl, rfl⟩), h.2⟩
theorem widthsPost_any {w : World} {n : Nat} {W : Nat → Int} {e : Ending} {w' : World} (h1 : 1 ≤ n) (h2 : n ≤ 400) (h : WidthsPost w n W e w') : AnyPost true w e w' := by
  obtain ⟨g, he, _, hB⟩ := h
  exact ⟨_, _, _, _, he, .inr (.inl ⟨rfl, rfl, h1, h2⟩), hB⟩

theorem rowsOf_nat (r top : Int) (hr : 0 ≤ r) (ht : 0 ≤ top) : ∃ N : Nat, rowsOf r top = N := ⟨(rowsOf r top).toNat, by
  have := (rnd_bd (r * top) 100 (Int.mul_nonneg hr ht) (by omega)).1
  unfold rowsOf
  omega⟩

/-- Widths of a gauge that is good, and of any points. -/
theorem widths_answer (n cap : Nat) (h v : Nat → Int) (s r : Int) (bk off : Nat) (w : World) (hn : n ≤ 100000) (hn2 : 2 ≤ n) (hlt : bk < w.heap.size) (hp : PtsAt w bk off n h v) (hok : gaugeOk s r) (good : Bool) (hg : good = true ↔ validP n h v) :
    Calls Try.prog 17 #[.agg #[.int .i64 s, .int .i64 r], .slice (some ⟨bk, off, none⟩) n cap] w (AnyPost good w) := by
  have hbw : ∀ w1, Below w.heap.size w w1 → PtsAt w1 bk off n h v := fun w1 hb k hk => ⟨(hb.cell (p := ⟨bk, off + k * 2, none⟩) hlt).trans (hp k hk).1, (hb.cell (p := ⟨bk, off + k * 2 + 1, none⟩) hlt).trans (hp k hk).2⟩
  cases good
  · refine (widths_outline n cap s r _ w hok fun w1 hb => ?_).mono fun _ _ => errpost_bad
    by_cases h0 : h 0 = 0
    · refine valid_no n cap h v bk off w1 hn (Nat.lt_of_lt_of_le hlt hb.size) (hbw w1 hb) hn2 h0 fun hall => ?_
      exact Bool.noConfusion (hg.2 ⟨hn2, h0, hall⟩)
    · exact valid_first n cap h v bk off w1 hn hn2 (hbw w1 hb) h0
  · have hv := hg.1 rfl
    have hpo := validP_ok hv
    obtain ⟨N, hN⟩ := rowsOf_nat r (h (n - 1)) (by have := hok.2.2.1; omega) (hpo.2.2.1 (n - 1) (by omega)).1
    by_cases hbig : 400 < N
    · exact (widths_limit n cap h v s r bk off w hn hlt hp hv hok (by omega)).mono fun _ _ => errpost_big
    · by_cases hz : N = 0 ∨ ∃ k, k < N ∧ widthAt n h v s r k = 0
      · exact (widths_zero n cap h v s r bk off w hn hlt hp hv hok N (by omega) hN hz).mono fun _ _ => errpost_zero
      · have h1 : 1 ≤ N := by
          have : N ≠ 0 := fun e => hz (.inl e)
          omega
        exact (widths_ok n cap h v s r bk off w hn hlt hp hv hok N (by omega) hN h1 fun k hk e => hz (.inr ⟨k, hk, e⟩)).mono fun _ _ => widthsPost_any h1 (by omega)
theorem widths_answer_few (n cap : Nat) (s r : Int) (ao : Option Addr) (w : World) (hb : ¬ gaugeOk s r ∨ n < 2) :
    Calls Try.prog 17 #[.agg #[.int .i64 s, .int .i64 r], .slice ao n cap] w (AnyPost false w) := by
  by_cases hok : gaugeOk s r
  · exact (widths_outline n cap s r ao w hok fun w1 _ => valid_few n cap ao w1 (hb.resolve_left (fun h => h hok))).mono fun _ _ => errpost_bad
  · exact (widths_gauge n cap s r ao w hok).mono fun _ _ => errpost_bad

/-- The first k points are good. -/
def stepOk (h v : Nat → Int) (k : Nat) : Bool := decide (0 ≤ v k ∧ 0 ≤ h k ∧ v k ≤ 20000 ∧ h k ≤ 20000 ∧ (0 < k → h (k - 1) ≤ h k) ∧ (0 < k ∨ h 0 = 0))
def upOk (h v : Nat → Int) (k : Nat) : Bool := (List.range k).all (stepOk h v)
theorem upOk_succ (h v : Nat → Int) (k : Nat) : upOk h v (k + 1) = (upOk h v k && stepOk h v k) := by simp [upOk, List.range_succ]
theorem upOk_valid (n : Nat) (h v : Nat → Int) (hn : 2 ≤ n) : upOk h v n = true ↔ validP n h v := by
  simp only [upOk, stepOk, List.all_eq_true, List.mem_range, decide_eq_true_eq]
  constructor
  · intro H
    refine ⟨hn, ?_, fun k hk => ?_⟩
    · exact (H 0 (by omega)).2.2.2.2.2.resolve_left (by omega)
    · obtain ⟨a, b, c, d, e, _⟩ := H k hk
      exact ⟨a, b, c, d, e⟩
  · rintro ⟨_, h0, H⟩ k hk
    obtain ⟨a, b, c, d, e⟩ := H k hk
    exact ⟨a, b, c, d, e, .inr h0⟩

set_option maxRecDepth 20000 in
set_option maxHeartbeats 2000000 in
theorem gaugesErrors_long (n cap : Nat) (s r : Int) (ao : Option Addr) (w : World) (hn : n ≤ maxLen) (h : 10 < n) :
    Calls Try.prog 7 #[.agg #[.int .i64 s, .int .i64 r], .slice ao n cap] w (LivesPost w) := by
  unfold maxLen at hn
  go_enter Try.func7, Try.ntmps7
  go_wp2_with fail
  refine (lives_any _).mono ?_; rintro e w1 ⟨rfl, hB⟩
  go_wp2
  go_ret
  exact ⟨rfl, Below.trans (by go_grown) (hB.mono (by simp))⟩

set_option maxRecDepth 20000 in
set_option maxHeartbeats 4000000 in
theorem gaugesErrors_bad (n cap : Nat) (s r : Int) (ao : Option Addr) (w : World) (hn : n ≤ 10) (hb : ¬ gaugeOk s r ∨ n < 2) :
    Calls Try.prog 7 #[.agg #[.int .i64 s, .int .i64 r], .slice ao n cap] w (LivesPost w) := by
  have HC := Lib.hid (fun w1 => widths_answer_few n cap s r ao w1 hb)
  have hb2 : s < 1 ∨ (1 ≤ s ∧ 400 < s) ∨ (1 ≤ s ∧ s ≤ 400 ∧ r < 1) ∨ (1 ≤ s ∧ s ≤ 400 ∧ 1 ≤ r ∧ 400 < r) ∨ (1 ≤ s ∧ s ≤ 400 ∧ 1 ≤ r ∧ r ≤ 400 ∧ n < 2) := by
    unfold gaugeOk at hb
    omega
  clear hb
  rcases hb2 with h1 | ⟨h1, h2⟩ | ⟨h1, h2, h3⟩ | ⟨h1, h2, h3, h4⟩ | ⟨h1, h2, h3, h4, h5⟩
  all_goals
    go_enter Try.func7, Try.ntmps7
    go_wp2_with fail
    go_loopw [5, 6] (fun g i wr => ∃ k : Nat, k ≤ n ∧ g = .bool false ∧ i = .int .i64 k ∧ Below w.heap.size w wr ∧ wr.cell? ⟨w.heap.size, 0, none⟩ = some (.int .i64 s) ∧ wr.cell? ⟨w.heap.size, 1, none⟩ = some (.int .i64 r)) (fun _ i _ => n - (intOf i).toNat)
    case atStart => exact ⟨0, by omega, by first | rfl | (simp; omega), rfl, by go_grown, by simp [go_sem], by simp [go_sem]⟩
    case round =>
      obtain ⟨k, hk, rfl, rfl, hB, c1, c2⟩ := hrel
      by_cases hkn : k < n
      · by_cases h0 : 0 < k
        · go_wp2
          go_quiet (fail)
          go_wp2
          go_roundw
          case rel => exact ⟨k + 1, by omega, rfl, by go_num, below_drewN hB _, c1, c2⟩
          case measure => simp [intOf]; omega
        · go_wp2
          go_roundw
          case rel => exact ⟨k + 1, by omega, rfl, by go_num, hB, c1, c2⟩
          case measure => simp [intOf]; omega
      · obtain rfl : k = n := by omega
        go_wp2_with fail
        refine (HC.out _).mono ?_; rintro e w1 ⟨ao, m, cp, c, rfl, hA, hB1⟩
        have hBB := hB.trans (hB1.mono hB.size)
        obtain ⟨rfl, rfl⟩ : c = 1 ∧ m = 0 := by simpa [Answer] using hA
        clear hA
        go_wp2_with fail
        refine (lives_any _).mono ?_; rintro e w2 ⟨rfl, hB2⟩
        go_wp2
        go_ret
        exact ⟨rfl, hBB.trans (hB2.mono hBB.size)⟩

theorem false_rel {G B : Bool} (h : B = false) : Value.bool false = .bool (G && B) := by rw [h]; simp
theorem step_no (h v : Nat → Int) (k : Nat) (hb : h k < 0 ∨ 20000 < h k ∨ v k < 0 ∨ 20000 < v k ∨ (0 < k ∧ h k < h (k - 1)) ∨ (¬ 0 < k ∧ h k ≠ 0)) : stepOk h v k = false := by
  unfold stepOk
  simp only [decide_eq_false_iff_not]
  rintro ⟨a, b, c, d, e, f⟩
  by_cases h0 : 0 < k
  · have := e h0
    omega
  · obtain rfl : k = 0 := by omega
    have := f.resolve_left (by omega)
    omega
theorem step_yes (h v : Nat → Int) (k : Nat) (h1 : 0 ≤ h k) (h2 : h k ≤ 20000) (h3 : 0 ≤ v k) (h4 : v k ≤ 20000) (h5 : (0 < k ∧ h (k - 1) ≤ h k) ∨ (¬ 0 < k ∧ h k = 0)) : stepOk h v k = true := by
  unfold stepOk
  simp only [decide_eq_true_eq]
  by_cases h0 : 0 < k
  · exact ⟨h3, h1, h4, h2, fun _ => by omega, .inl h0⟩
  · obtain rfl : k = 0 := by omega
    exact ⟨h3, h1, h4, h2, fun h => by omega, .inr (by omega)⟩

set_option maxRecDepth 20000 in
set_option maxHeartbeats 8000000 in
theorem gaugesErrors_good (n cap : Nat) (h v : Nat → Int) (s r : Int) (bk off : Nat) (w : World) (hn : n ≤ 10) (hn2 : 2 ≤ n) (hok : gaugeOk s r) (hlt : bk < w.heap.size) (hp : PtsAt w bk off n h v) :
    Calls Try.prog 7 #[.agg #[.int .i64 s, .int .i64 r], .slice (some ⟨bk, off, none⟩) n cap] w (LivesPost w) := by
  have hbw : ∀ w1, Below w.heap.size w w1 → PtsAt w1 bk off n h v := fun w1 hb k hk => ⟨(hb.cell (p := ⟨bk, off + k * 2, none⟩) hlt).trans (hp k hk).1, (hb.cell (p := ⟨bk, off + k * 2 + 1, none⟩) hlt).trans (hp k hk).2⟩
  have HC := Lib.hid (fun w1 (hb : Below w.heap.size w w1) => widths_answer n cap h v s r bk off w1 (by omega) hn2 (Nat.lt_of_lt_of_le hlt hb.size) (hbw w1 hb) hok (upOk h v n) (upOk_valid n h v hn2))
  have HP := Lib.hid hbw
  clear hp hbw
  obtain ⟨s1, s2, r1, r2⟩ := hok
  go_enter Try.func7, Try.ntmps7
  go_wp2_with fail
  go_loopw [5, 6] (fun g i wr => ∃ k : Nat, k ≤ n ∧ g = .bool (upOk h v k) ∧ i = .int .i64 k ∧ Below w.heap.size w wr ∧ wr.cell? ⟨w.heap.size, 0, none⟩ = some (.int .i64 s) ∧ wr.cell? ⟨w.heap.size, 1, none⟩ = some (.int .i64 r)) (fun _ i _ => n - (intOf i).toNat)
  case atStart => exact ⟨0, by omega, by simp [upOk]; omega, rfl, by go_grown, by simp [go_sem], by simp [go_sem]⟩
  case round =>
    obtain ⟨k, hk, rfl, rfl, hB, c1, c2⟩ := hrel
    by_cases hkn : k < n
    · have HE := Lib.hid (upOk_succ h v k)
      generalize upOk h v k = G at *
      obtain ⟨e1, e2⟩ := HP.out wr hB k hkn
      by_cases h0 : 0 < k
      · have e3 := (HP.out wr hB (k - 1) (by omega)).1
        have HN := Lib.hid (fun hb => step_no h v k hb)
        have HY := Lib.hid (fun h1 h2 h3 h4 h5 => step_yes h v k h1 h2 h3 h4 (.inl ⟨h0, h5⟩))
        generalize h k = x at *
        generalize v k = y at *
        generalize h (k - 1) = z at *
        cases G
        · go_wp2
          go_quiet (fail)
          go_wp2
          go_roundw
          case rel => exact ⟨k + 1, by omega, by rw [HE.out]; rfl, by go_num, below_drewN hB _, c1, c2⟩
          case measure => simp [intOf]; omega
        · have hq : x < 0 ∨ (0 ≤ x ∧ 20000 < x) ∨ (0 ≤ x ∧ x ≤ 20000 ∧ y < 0) ∨ (0 ≤ x ∧ x ≤ 20000 ∧ 0 ≤ y ∧ 20000 < y) ∨ (0 ≤ x ∧ x ≤ 20000 ∧ 0 ≤ y ∧ y ≤ 20000 ∧ x < z) ∨ (0 ≤ x ∧ x ≤ 20000 ∧ 0 ≤ y ∧ y ≤ 20000 ∧ z ≤ x) := by omega
          rcases hq with q1 | ⟨q1, q2⟩ | ⟨q1, q2, q3⟩ | ⟨q1, q2, q3, q4⟩ | ⟨q1, q2, q3, q4, q5⟩ | ⟨q1, q2, q3, q4, q5⟩
          all_goals
            go_wp2
            go_quiet (fail)
            go_wp2
            go_roundw
            case rel => exact ⟨k + 1, by omega, by first | (rw [HE.out, HN.out (by omega)]; first | rfl | (simp; omega)) | (rw [HE.out, HY.out (by omega) (by omega) (by omega) (by omega) (by omega)]; first | rfl | (simp; omega)), by go_num, below_drewN hB _, c1, c2⟩
            case measure => simp [intOf]; omega
      · have HN := Lib.hid (fun hb => step_no h v k hb)
        have HY := Lib.hid (fun h1 h2 h3 h4 h5 => step_yes h v k h1 h2 h3 h4 (.inr ⟨h0, h5⟩))
        generalize h k = x at *
        generalize v k = y at *
        cases G
        · go_wp2
          go_roundw
          case rel => exact ⟨k + 1, by omega, by rw [HE.out]; rfl, by go_num, hB, c1, c2⟩
          case measure => simp [intOf]; omega
        · have hq : x < 0 ∨ (0 ≤ x ∧ 20000 < x) ∨ (0 ≤ x ∧ x ≤ 20000 ∧ y < 0) ∨ (0 ≤ x ∧ x ≤ 20000 ∧ 0 ≤ y ∧ 20000 < y) ∨ (0 < x ∧ x ≤ 20000 ∧ 0 ≤ y ∧ y ≤ 20000) ∨ (0 = x ∧ 0 ≤ y ∧ y ≤ 20000) := by omega
          rcases hq with q1 | ⟨q1, q2⟩ | ⟨q1, q2, q3⟩ | ⟨q1, q2, q3, q4⟩ | ⟨q1, q2, q3, q4⟩ | ⟨rfl, q1, q2⟩
          all_goals
            go_wp2
            go_roundw
            case rel => exact ⟨k + 1, by omega, by first | (rw [HE.out, HN.out (by omega)]; first | rfl | (simp; omega)) | (rw [HE.out, HY.out (by omega) (by omega) (by omega) (by omega) (by omega)]; first | rfl | (simp; omega)), by go_num, hB, c1, c2⟩
            case measure => simp [intOf]; omega
    · obtain rfl : k = n := by omega
      have HC2 := Lib.hid (HC.out wr hB)
      clear HC
      generalize upOk h v k = G at *
      go_wp2_with fail
      refine (HC2.out).mono ?_; rintro e w1 ⟨ao, m, cp, c, rfl, hA, hB1⟩
      have hBB := hB.trans (hB1.mono hB.size)
      clear HC2
      rcases hA with ⟨rfl, rfl, rfl⟩ | ⟨rfl, rfl, m1, m2⟩ | ⟨rfl, rfl | rfl, rfl⟩
      all_goals
        go_wp2_with fail
        refine (lives_any _).mono ?_; rintro e w2 ⟨rfl, hB2⟩
        go_wp2
        go_ret
        exact ⟨rfl, hBB.trans (hB2.mono hBB.size)⟩

theorem gaugesErrors_walk (n cap : Nat) (h v : Nat → Int) (s r : Int) (ao : Option Addr) (w : World) (hn : n ≤ maxLen)
    (ha : n = 0 ∨ ∃ b off, ao = some ⟨b, off, none⟩ ∧ b < w.heap.size ∧ PairsOf w .i64 b off n h v) :
    Calls Try.prog 7 #[.agg #[.int .i64 s, .int .i64 r], .slice ao n cap] w (LivesPost w) := by
  by_cases h10 : 10 < n
  · exact gaugesErrors_long n cap s r ao w hn h10
  · by_cases hb : ¬ gaugeOk s r ∨ n < 2
    · exact gaugesErrors_bad n cap s r ao w (by omega) hb
    · have hok : gaugeOk s r := Classical.byContradiction fun hg => hb (.inl hg)
      have hn2 : 2 ≤ n := Nat.le_of_not_lt fun hg => hb (.inr hg)
      rcases ha with h0 | ⟨b, off, rfl, hlt, hp⟩
      · omega
      · exact gaugesErrors_good n cap h v s r b off w (by omega) hn2 hok hlt hp

namespace lawGaugesErrors
theorem own : ownKnob Try.prog.godebug = none := by kernel_rfl
theorem laidOut : laidOutB Try.prog = true := by kernel_rfl

set_option maxRecDepth 100000 in
theorem lifted (os : Os) (started : os.Started) (H : Type) (enc : TypeId × Value → H) :
    ReturnsInHanded {} Try.checked os 7 .any (Rows.gaugesErrorsSpec.pre6 enc Try.prog Try.f7 Rows.gaugesErrorsRow.domain false) (Rows.gaugesErrorsSpec.post enc Try.prog Try.f7 false true false false) := by
  refine returnsInHanded_of_change (C := Try.checked) own started (by kernel_rfl) Try.func7
    (ChangeSpec.witness6 (enc := enc) (C := Try.checked) false ⟨#[], #[.agg #[.int .i64 0, .int .i64 0], .slice none 0 0], []⟩ 8 (by kernel_rfl) (by kernel_rfl) (by kernel_rfl) (by kernel_rfl)) ?_
  intro W base args ds gs before hval0 hW hcnd _
  have hval : ∀ (j : Nat) t v, Try.f7.params[j]? = some t → args[j]? = some v → Value.okWide Try.prog W .any base t v := hval0
  have hW' := hW
  obtain ⟨p, q, hA0, hV, rfl, hfz, hnd⟩ := hW
  have hA : DataW.TrodAll enc Try.prog W 0 (fun _ => true) true Try.f7.params.toList args.toList ds p := hA0
  rw [Try.params7] at hA hval
  obtain ⟨v0, vs0, d0, ds0, p0, q0, hargs, rfl, rfl, h0, r0⟩ := trodAll_cons hA
  obtain ⟨v1, vs1, d1, ds1, p1, q1, rfl, rfl, rfl, h1, r1⟩ := trodAll_cons r0
  obtain ⟨rfl, rfl, rfl⟩ := trodAll_nil r1
  obtain rfl : args = #[v0, v1] := by cases args; simp_all
  obtain ⟨rfl, rfl⟩ := trodVars_none hV
  have k0 := h0
  have lt0 : ∀ x ∈ p0, x.block < W.heap.size := by obtain ⟨m, hm⟩ := k0; exact DataW.trod_lt m _ _ _ hm
  have k1 := h1
  have lt1 : ∀ x ∈ p1, x.block < W.heap.size := by obtain ⟨m, hm⟩ := k1; exact DataW.trod_lt m _ _ _ hm
  obtain ⟨y0, y1, e0, e1, m0, rfl, _, _, t0, t1⟩ := Joins.open_agg2 Try.underlying37 (by kernel_rfl) (by kernel_rfl) (hval 0 37 v0 rfl rfl) h0
  obtain ⟨a0, f0, _, _⟩ := DataW.trod_int Try.underlying3 t0
  obtain ⟨a1, f1, _, _⟩ := DataW.trod_int Try.underlying3 t1
  obtain rfl : y0 = .int .i64 a0 := by simpa using f0
  obtain rfl : y1 = .int .i64 a1 := by simpa using f1
  clear f0 f1
  obtain ⟨ao0, n0, cap0, rfl⟩ := okWide_slice Try.underlying38 (hval 1 38 v1 rfl rfl)
  obtain ⟨hh, vv, hn, ha⟩ : ∃ hh vv : Nat → Int, n0 ≤ maxLen ∧ (n0 = 0 ∨ ∃ b off, ao0 = some ⟨b, off, none⟩ ∧ b < W.heap.size ∧ PairsOf W .i64 b off n0 hh vv) := by
    obtain ⟨fuel, hf⟩ := h1
    obtain ⟨ao1, n1, cap1, hh, vv, he, r1, _, r3⟩ := open_pairs Try.underlying38 Try.underlying42 (by kernel_rfl) rfl rfl (by kernel_rfl) (by kernel_rfl) Try.underlying3 Try.underlying3 hf
    simp [Value.cells] at he
    obtain ⟨rfl, rfl, rfl⟩ := he
    exact ⟨hh, vv, r1, r3⟩
  clear hA0 hval0
  refine (gaugesErrors_walk n0 cap0 hh vv a0 a1 ao0 W hn ha).mono fun e W' ⟨he, bel⟩ => ?_
  subst he
  exact ⟨_, rfl, _, _, _, [], _, [], hW', trodAll_mk1 (shut_bool Try.underlying4 _), (trodAll_cons_mk (Below.trod laidOut (by kernel_rfl) (of_decide_eq_true (by kernel_rfl)) k0 bel lt0) (trodAll_cons_mk (Below.trod laidOut (by kernel_rfl) (of_decide_eq_true (by kernel_rfl)) k1 bel lt1) trodAll_mk0)), rfl, bel.frame _, fun h => by cases h⟩

theorem over : Rows.gaugesErrorsRow.holds Try.pinned (OpenSpec.ofChange Rows.gaugesErrorsSpec) :=
  OpenClaim.holds_of_wide 7 Try.f7 rfl rfl rfl rfl rfl rfl rfl ⟨rfl, rfl, rfl, rfl, rfl⟩ rfl rfl rfl rfl rfl (by kernel_rfl) Try.func7 (by kernel_rfl)
    (of_decide_eq_true (by kernel_rfl)) (by unfold Func.isWrapper; first | (rw [if_pos (by decide +kernel)]; kernel_rfl) | (rw [if_neg (by decide +kernel)]; exact ⟨rfl, rfl⟩))
    (fun os started H enc _ => lifted os started H enc)

theorem proved : Rows.GaugesErrorsSaid := over
end lawGaugesErrors
end Go.Proofs.Ytknkpmckgaloaaa

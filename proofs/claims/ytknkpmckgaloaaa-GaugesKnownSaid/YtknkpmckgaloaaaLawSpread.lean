/-
  GaugesSpread: the law, for every input.
-/
import Derived.Lib.SmallJoins
import Derived.Test.YtknkpmckgaloaaaGh
import Derived.ProofKit
import Derived.OpenShut
import Derived.ShutString
import Derived.ChangeOld
namespace Go.Proofs.Ytknkpmckgaloaaa
open Go.ChangeShapes Go.WideShapes Go.ChangeAt Go.RowKit

theorem open_arr2 {H : Type} {enc : TypeId × Value → H} {P : Program} {w : World} {base b0 : Nat} {spare : Nat → Bool} {held : Bool} {r : Go.Reach} {t e : TypeId} {k : IntKind} {v : Value} {d : DataW H} {p : List MemPlace}
    (hs : P.underlying t = some (.array 2 e)) (he : P.underlying e = some (.int k)) (ce : P.cellsOf e = 1) (hC : P.cellsOf t = 2) (hv : Value.okWide P w r b0 t v) (h : DataW.Trod enc P w base spare held t v d p) :
    ∃ x0 x1, v = .agg #[.int k x0, .int k x1] ∧ (Lit.int k x0).wf = true ∧ (Lit.int k x1).wf = true := by
  obtain ⟨cs, rfl, hsz, _⟩ : ∃ cs, v = .agg cs ∧ cs.size = P.cellsOf t ∧ Row.okWide P w r b0 t cs := by simpa [Value.okWide, hs] using hv
  obtain ⟨c0, c1, rfl⟩ := Joins.array2 (hsz.trans hC)
  obtain ⟨fuel, hf⟩ := h
  obtain ⟨xs, m, _, _, _, hl, hel⟩ := DataW.trod_array hs hf
  match xs, hl with
  | [y0, y1], _ =>
    have g0 := hel 0 (by omega)
    have g1 := hel 1 (by omega)
    simp [ce, Value.cells] at g0 g1
    obtain ⟨x0, e0, rfl, w0⟩ := DataW.trod_int he g0
    obtain ⟨x1, e1, rfl, w1⟩ := DataW.trod_int he g1
    simp at e0 e1
    subst e0 e1
    exact ⟨x0, x1, rfl, w0, w1⟩

theorem part_step (t : Int) (p k : Nat) (hp : 1 ≤ p) : t / p ≤ part t p (k + 1) - part t p k ∧ part t p (k + 1) - part t p k ≤ t / p + 1 := by
  have e : ((k + 1 : Nat) : Int) * t = (k : Int) * t + t := by rw [Int.natCast_add, Int.add_mul]; simp
  unfold part
  rw [e]
  generalize (k : Int) * t = A
  have hp0 : (0 : Int) < p := by omega
  have a1 := Int.ediv_mul_le A (show (p : Int) ≠ 0 by omega)
  have a2 := Int.ediv_mul_le t (show (p : Int) ≠ 0 by omega)
  have b1 := Int.lt_ediv_add_one_mul_self A hp0
  have b2 := Int.lt_ediv_add_one_mul_self t hp0
  have c1 : A / p + t / p ≤ (A + t) / p := (Int.le_ediv_iff_mul_le hp0).2 (by rw [Int.add_mul]; omega)
  have c2 : (A + t) / p < A / p + t / p + 2 := (Int.ediv_lt_iff_lt_mul hp0).2 (by rw [Int.add_mul] at *; rw [Int.add_mul]; omega)
  omega

theorem part_bd (t : Int) (p k : Nat) (hp : 1 ≤ p) (hk : k ≤ p) (ht : 0 ≤ t) (ht2 : t ≤ 80000) : 0 ≤ part t p k ∧ part t p k ≤ 80000 := by
  unfold part
  have hp0 : (0 : Int) < p := by omega
  have h1 : (k : Int) * t ≤ p * t := Int.mul_le_mul_of_nonneg_right (by omega) ht
  have h2 : (k : Int) * t / p < t + 1 := (Int.ediv_lt_iff_lt_mul hp0).2 (by rw [Int.add_mul, Int.mul_comm t]; omega)
  exact ⟨Int.ediv_nonneg (Int.mul_nonneg (by omega) ht) (by omega), by omega⟩

theorem part_mul (t : Int) (p k : Nat) (hp : 1 ≤ p) : part t p k * p ≤ k * t ∧ (k : Int) * t < part t p k * p + p := by
  unfold part
  have a1 := Int.ediv_mul_le ((k : Int) * t) (show (p : Int) ≠ 0 by omega)
  have b1 := Int.lt_ediv_add_one_mul_self ((k : Int) * t) (show (0 : Int) < p by omega)
  rw [Int.add_mul] at b1
  omega

def some2 (t : Int) (p f g k : Nat) : Int := if f < g then part t p (max f (min k g)) - part t p f else 0
theorem some2_zero (t : Int) (p f g : Nat) : some2 t p f g 0 = 0 := by simp [some2]
theorem some2_in (t : Int) (p f g k : Nat) (h : f ≤ k) (h2 : k < g) : some2 t p f g (k + 1) = some2 t p f g k + (part t p (k + 1) - part t p k) := by
  have e1 : max f (min (k + 1) g) = k + 1 := by omega
  have e2 : max f (min k g) = k := by omega
  simp only [some2, e1, e2, if_pos (show f < g by omega)]
  omega
theorem some2_out (t : Int) (p f g k : Nat) (h : ¬ (f ≤ k ∧ k < g)) : some2 t p f g (k + 1) = some2 t p f g k := by
  have e1 : max f (min (k + 1) g) = max f (min k g) ∨ ¬ f < g := by omega
  rcases e1 with e1 | e1
  · simp only [some2, e1]
  · simp only [some2, if_neg e1]
theorem some2_bd (t : Int) (p f g k : Nat) (hp : 1 ≤ p) (hf : f ≤ p) (hg : g ≤ p) (ht : 0 ≤ t) (ht2 : t ≤ 80000) : -80000 ≤ some2 t p f g k ∧ some2 t p f g k ≤ 80000 := by
  have h1 := part_bd t p f hp hf ht ht2
  have h2 := part_bd t p (max f (min k g)) hp (by omega) ht ht2
  unfold some2
  split <;> omega
theorem some2_far (t : Int) (p f g : Nat) (hp : 1 ≤ p) (hp2 : p ≤ 400) (hfg : f < g) (hg : g ≤ p) (ht : 0 ≤ t) (ht2 : t ≤ 80000) :
    -40000000 ≤ some2 t p f g p * p ∧ some2 t p f g p * p ≤ 40000000 ∧ 0 ≤ ((g : Int) - f) * t ∧ ((g : Int) - f) * t ≤ 40000000 ∧ -(p : Int) < some2 t p f g p * p - ((g : Int) - f) * t ∧ some2 t p f g p * p - ((g : Int) - f) * t < p := by
  have e1 : max f (min p g) = g := by omega
  simp only [some2, e1, if_pos hfg]
  have m1 := part_mul t p f hp
  have m2 := part_mul t p g hp
  have m3 := mul_bd ((g : Int) - f) t 400 80000 (by omega) (by omega) ht ht2
  rw [Int.sub_mul]
  rw [Int.sub_mul] at m3 ⊢
  omega

theorem diffs_parts (t : Int) (p n : Nat) (hp : 1 ≤ p) (hn : n ≤ p) (ht : 0 ≤ t) (ht2 : t ≤ 80000) : diffs 0 (parts t p n) = (List.range n).map fun k => part t p (k + 1) - part t p k := by
  induction n with
  | zero => rfl
  | succ n ih =>
    rw [parts_succ, diffs_snoc, ih (by omega), List.range_succ, List.map_append]
    have e : (parts t p n).getLast?.getD 0 = part t p n := by
      cases n with
      | zero => simp [parts, part]
      | succ m => rw [parts_succ]; simp
    have h1 := part_bd t p (n + 1) hp hn ht ht2
    have h2 := part_bd t p n hp (by omega) ht ht2
    rw [e, show wrap64 (part t p (n + 1) - part t p n) = part t p (n + 1) - part t p n by unfold wrap64; omega]
    simp

theorem spread_cell (t : Int) (p : Nat) (hp : 1 ≤ p) (ht : 0 ≤ t) (ht2 : t ≤ 80000) {w : World} {g : Nat} {c : Nat} (h : w.ownsRow g 3 1 (.slice (some ⟨g, 0, none⟩) p c) p (vals (diffs 0 (parts t p p)))) (k : Nat) (hk : k < p) :
    w.cell? ⟨g, k, none⟩ = some (.int .i64 (part t p (k + 1) - part t p k)) := by
  have := h.cells rfl k (.int .i64 (part t p (k + 1) - part t p k)) (by rw [diffs_parts t p p hp (Nat.le_refl _) ht ht2]; simp [vals, hk])
  rwa [add_zero_addr] at this

set_option maxRecDepth 20000 in
set_option maxHeartbeats 2000000 in
theorem gaugesSpread_no (t p z0 z1 : Int) (w : World) (h : ¬ (1 ≤ p ∧ p ≤ 400 ∧ 0 ≤ t ∧ t ≤ 80000)) :
    Calls Try.prog 5 #[.int .i64 t, .int .i64 p, .agg #[.int .u16 z0, .int .u16 z1]] w (LivesPost w) := by
  have k0 := Lib.hid (fun w => spread_no t p w h)
  have hh : p < 1 ∨ (1 ≤ p ∧ 400 < p) ∨ (1 ≤ p ∧ p ≤ 400 ∧ t < 0) ∨ (1 ≤ p ∧ p ≤ 400 ∧ 0 ≤ t ∧ 80000 < t) := by omega
  clear h
  by_cases ht0 : t < 0
  · clear hh
    go_enter Try.func5, Try.ntmps5
    go_wp2_with fail
    refine (k0.out _).mono ?_; rintro e w1 ⟨rfl, rfl⟩
    go_wp2_with fail
    refine (lives_any _).mono ?_; rintro e w1 ⟨rfl, hB⟩
    go_wp2
    go_ret
    exact ⟨rfl, ((Below.refl _ w).alloc (Nat.le_refl _) _).trans (hB.mono (by simp))⟩
  by_cases ht1 : 80000 < t
  · clear hh
    go_enter Try.func5, Try.ntmps5
    go_wp2_with fail
    refine (k0.out _).mono ?_; rintro e w1 ⟨rfl, rfl⟩
    go_wp2_with fail
    refine (lives_any _).mono ?_; rintro e w1 ⟨rfl, hB⟩
    go_wp2
    go_ret
    exact ⟨rfl, ((Below.refl _ w).alloc (Nat.le_refl _) _).trans (hB.mono (by simp))⟩
  have hp : p < 1 ∨ (1 ≤ p ∧ 400 < p) := by omega
  clear hh
  rcases hp with q | ⟨q1, q⟩
  all_goals
    go_enter Try.func5, Try.ntmps5
    go_wp2_with fail
    refine (k0.out _).mono ?_; rintro e w1 ⟨rfl, rfl⟩
    go_wp2_with fail
    refine (lives_any _).mono ?_; rintro e w1 ⟨rfl, hB⟩
    go_wp2
    go_ret
    exact ⟨rfl, ((Below.refl _ w).alloc (Nat.le_refl _) _).trans (hB.mono (by simp))⟩

set_option maxRecDepth 20000 in
set_option maxHeartbeats 2000000 in
theorem gaugesSpread_yes (t : Int) (p : Nat) (z0 z1 : Int) (w : World) (hp1 : 1 ≤ p) (hp2 : p ≤ 400) (ht : 0 ≤ t) (ht2 : t ≤ 80000) (hz0 : 0 ≤ z0 ∧ z0 ≤ 65535) (hz1 : 0 ≤ z1 ∧ z1 ≤ 65535) :
    Calls Try.prog 5 #[.int .i64 t, .int .i64 p, .agg #[.int .u16 z0, .int .u16 z1]] w (LivesPost w) := by
  obtain ⟨z01, z02⟩ := hz0
  obtain ⟨z11, z12⟩ := hz1
  go_enter Try.func5, Try.ntmps5
  go_wp2_with fail
  refine (spread_yes t p ht ht2 hp1 hp2 _).mono ?_; rintro e w1 ⟨rfl, ho, hB⟩
  have hc0 : w1.cell? ⟨w.heap.size, 0, none⟩ = some (.int .u16 z0) := (hB.cell (p := ⟨w.heap.size, 0, none⟩) (by simp)).trans (by simp [go_sem])
  have hc1 : w1.cell? ⟨w.heap.size, 1, none⟩ = some (.int .u16 z1) := (hB.cell (p := ⟨w.heap.size, 1, none⟩) (by simp)).trans (by simp [go_sem])
  have HS := Lib.hid (spread_cell t p hp1 ht ht2 ho)
  have hBw : Below w.heap.size w w1 := ((Below.refl _ w).alloc (Nat.le_refl _) _).trans (hB.mono (by simp))
  clear hB ho
  simp only [World.alloc, Array.size_push] at HS
  obtain ⟨f, hf⟩ : ∃ f : Nat, z0 % ((p : Int) + 1) = f := ⟨(z0 % ((p : Int) + 1)).toNat, by have := Int.emod_nonneg z0 (show (p : Int) + 1 ≠ 0 by omega); omega⟩
  obtain ⟨g, hg⟩ : ∃ f : Nat, z1 % ((p : Int) + 1) = f := ⟨(z1 % ((p : Int) + 1)).toNat, by have := Int.emod_nonneg z1 (show (p : Int) + 1 ≠ 0 by omega); omega⟩
  have hfp : f ≤ p := by have := Int.emod_lt_of_pos z0 (show 0 < (p : Int) + 1 by omega); omega
  have hgp : g ≤ p := by have := Int.emod_lt_of_pos z1 (show 0 < (p : Int) + 1 by omega); omega
  go_wp2_with fail
  refine wp_region_cuts [(true, 14)] (by kernel_rfl) (by kernel_rfl) (by kernel_rfl) rfl (noWay_body (P := Try.prog) (fn := Try.f5) (R := LivesPost w) (fun _ _ h => nomatch h.1) (fun _ h => nomatch h.1)) ?_
  simp only [wpCuts, List.take_succ_cons, List.take_nil]
  go_wp2
  refine ⟨trivial, ?_⟩
  go_wp2
  simp only [hf, hg]
  clear hf hg hc0 hc1
  go_loopw [11, 12, 13] (fun s so i wr => ∃ k : Nat, k ≤ p ∧ s = .int .i64 (part t p k) ∧ so = .int .i64 (some2 t p f g k) ∧ i = .int .i64 k ∧ ∃ n, wr = w1.drewN n) (fun _ _ i _ => p - (intOf i).toNat)
  case atStart => exact ⟨0, by omega, by simp [part], by rw [some2_zero], rfl, 1, rfl⟩
  case round =>
    obtain ⟨k, hk, rfl, rfl, rfl, n, rfl⟩ := hrel
    by_cases hkp : k < p
    · have h1 := HS.out k hkp
      obtain ⟨b1, b2⟩ := part_bd t p k hp1 hk ht ht2
      obtain ⟨b3, b4⟩ := part_bd t p (k + 1) hp1 hkp ht ht2
      obtain ⟨b5, b6⟩ := part_step t p k hp1
      obtain ⟨b7, b8⟩ := some2_bd t p f g k hp1 hfp hgp ht ht2
      have e := part_next t p k
      obtain ⟨m1, m2⟩ := mul_bd ((k : Int) + 1) t 400 80000 (by omega) (by omega) ht ht2
      obtain ⟨q, hq⟩ : ∃ q, part t p k = q := ⟨_, rfl⟩
      obtain ⟨d, hd⟩ : ∃ d, part t p (k + 1) = q + d := ⟨part t p (k + 1) - q, by omega⟩
      obtain ⟨o, ho⟩ : ∃ o, some2 t p f g k = o := ⟨_, rfl⟩
      have hin := some2_in t p f g k
      have hout := some2_out t p f g k
      rw [hd, hq, show q + d - q = d by omega] at h1 b5 b6
      rw [hd, hq, ho, show q + d - q = d by omega] at hin
      rw [hq] at b1 b2
      rw [hd] at b3 b4 e
      rw [ho] at b7 b8 hout
      have e' := e.symm
      have HQ := Lib.hid hd
      simp only [hq, ho]
      clear hd hq ho e
      by_cases hi1 : f ≤ k
      · by_cases hi2 : k < g
        · have HO := Lib.hid (hin hi1 hi2)
          clear hin hout
          go_wp2_with fail
          refine wp_region_cuts [(true, 29)] (by kernel_rfl) (by kernel_rfl) (by kernel_rfl) rfl (noWay_body (P := Try.prog) (fn := Try.f5) (R := LivesPost w) (fun _ _ h => nomatch h.1) (fun _ h => nomatch h.1)) ?_
          simp only [wpCuts, List.take_succ_cons, List.take_nil]
          go_wp2
          refine ⟨rfl, ?_⟩
          go_wp2
          go_roundw
          case rel => exact ⟨k + 1, by omega, by rw [HQ.out], by rw [HO.out], by go_num, n + 1, rfl⟩
          case measure => simp [intOf]; omega
        · have HO := Lib.hid (hout (fun h => hi2 h.2))
          clear hin hout
          go_wp2_with fail
          refine wp_region_cuts [(true, 29)] (by kernel_rfl) (by kernel_rfl) (by kernel_rfl) rfl (noWay_body (P := Try.prog) (fn := Try.f5) (R := LivesPost w) (fun _ _ h => nomatch h.1) (fun _ h => nomatch h.1)) ?_
          simp only [wpCuts, List.take_succ_cons, List.take_nil]
          go_wp2
          refine ⟨rfl, ?_⟩
          go_wp2
          go_roundw
          case rel => exact ⟨k + 1, by omega, by rw [HQ.out], by rw [HO.out], by go_num, n + 1, rfl⟩
          case measure => simp [intOf]; omega
      · have HO := Lib.hid (hout (fun h => hi1 h.1))
        clear hin hout
        go_wp2_with fail
        refine wp_region_cuts [(true, 29)] (by kernel_rfl) (by kernel_rfl) (by kernel_rfl) rfl (noWay_body (P := Try.prog) (fn := Try.f5) (R := LivesPost w) (fun _ _ h => nomatch h.1) (fun _ h => nomatch h.1)) ?_
        simp only [wpCuts, List.take_succ_cons, List.take_nil]
        go_wp2
        refine ⟨rfl, ?_⟩
        go_wp2
        go_roundw
        case rel => exact ⟨k + 1, by omega, by rw [HQ.out], by rw [HO.out], by go_num, n + 1, rfl⟩
        case measure => simp [intOf]; omega
    · obtain rfl : k = p := by omega
      by_cases hfg : f < g
      · obtain ⟨f1, f2, f3, f4, f5, f6⟩ := some2_far t k f g hp1 hp2 hfg hgp ht ht2
        obtain ⟨b7, b8⟩ := some2_bd t k f g k hp1 hfp hgp ht ht2
        generalize some2 t k f g k = o at *
        go_wp2_with (go_at_call 14; refine (lives_any _).mono ?_; rintro e w2 ⟨rfl, hB2⟩)
        all_goals
          go_ret
          exact ⟨rfl, (below_drewN hBw n).trans (hB2.mono hBw.size)⟩
      · go_wp2_with (go_at_call 14; refine (lives_any _).mono ?_; rintro e w2 ⟨rfl, hB2⟩)
        all_goals
          go_ret
          exact ⟨rfl, (below_drewN hBw n).trans (hB2.mono hBw.size)⟩

theorem gaugesSpread_walk (t p z0 z1 : Int) (_ht : -9223372036854775808 ≤ t ∧ t ≤ 9223372036854775807) (_hp : -9223372036854775808 ≤ p ∧ p ≤ 9223372036854775807) (hz0 : 0 ≤ z0 ∧ z0 ≤ 65535) (hz1 : 0 ≤ z1 ∧ z1 ≤ 65535) (w : World) :
    Calls Try.prog 5 #[.int .i64 t, .int .i64 p, .agg #[.int .u16 z0, .int .u16 z1]] w (LivesPost w) := by
  by_cases h : 1 ≤ p ∧ p ≤ 400 ∧ 0 ≤ t ∧ t ≤ 80000
  · obtain ⟨h1, h2, h3, h4⟩ := h
    obtain ⟨n, rfl, hn⟩ := nat_eq_of_int h1
    exact gaugesSpread_yes t n z0 z1 w hn (by omega) h3 h4 hz0 hz1
  · exact gaugesSpread_no t p z0 z1 w h

namespace lawGaugesSpread
theorem own : ownKnob Try.prog.godebug = none := by kernel_rfl
theorem laidOut : laidOutB Try.prog = true := by kernel_rfl

set_option maxRecDepth 100000 in
theorem lifted (os : Os) (started : os.Started) (H : Type) (enc : TypeId × Value → H) :
    ReturnsInHanded {} Try.checked os 5 .any (Rows.gaugesSpreadSpec.pre6 enc Try.prog Try.f5 Rows.gaugesSpreadRow.domain false) (Rows.gaugesSpreadSpec.post enc Try.prog Try.f5 false true false false) := by
  refine returnsInHanded_of_change (C := Try.checked) own started (by kernel_rfl) Try.func5
    (ChangeSpec.witness6 (enc := enc) (C := Try.checked) false ⟨#[], #[.int .i64 0, .int .i64 1, .agg #[.int .u16 0, .int .u16 0]], []⟩ 8 (by kernel_rfl) (by kernel_rfl) (by kernel_rfl) (by kernel_rfl)) ?_
  intro W base args ds gs before hval0 hW hcnd _
  have hval : ∀ (j : Nat) t v, Try.f5.params[j]? = some t → args[j]? = some v → Value.okWide Try.prog W .any base t v := hval0
  have hW' := hW
  obtain ⟨p, q, hA0, hV, rfl, hfz, hnd⟩ := hW
  have hA : DataW.TrodAll enc Try.prog W 0 (fun _ => true) true Try.f5.params.toList args.toList ds p := hA0
  rw [Try.params5] at hA hval
  obtain ⟨v0, vs0, d0, ds0, p0, q0, hargs, rfl, rfl, h0, r0⟩ := trodAll_cons hA
  obtain ⟨v1, vs1, d1, ds1, p1, q1, rfl, rfl, rfl, h1, r1⟩ := trodAll_cons r0
  obtain ⟨v2, vs2, d2, ds2, p2, q2, rfl, rfl, rfl, h2, r2⟩ := trodAll_cons r1
  obtain ⟨rfl, rfl, rfl⟩ := trodAll_nil r2
  obtain rfl : args = #[v0, v1, v2] := by cases args; simp_all
  obtain ⟨rfl, rfl⟩ := trodVars_none hV
  have k0 := h0
  have lt0 : ∀ x ∈ p0, x.block < W.heap.size := by obtain ⟨m, hm⟩ := k0; exact DataW.trod_lt m _ _ _ hm
  have k1 := h1
  have lt1 : ∀ x ∈ p1, x.block < W.heap.size := by obtain ⟨m, hm⟩ := k1; exact DataW.trod_lt m _ _ _ hm
  have k2 := h2
  have lt2 : ∀ x ∈ p2, x.block < W.heap.size := by obtain ⟨m, hm⟩ := k2; exact DataW.trod_lt m _ _ _ hm
  obtain ⟨a0, rfl, rfl, rfl, w0⟩ := open_int Try.underlying3 (hval 0 3 v0 rfl rfl) h0
  obtain ⟨a1, rfl, rfl, rfl, w1⟩ := open_int Try.underlying3 (hval 1 3 v1 rfl rfl) h1
  obtain ⟨z0, z1, rfl, wz0, wz1⟩ := open_arr2 Try.underlying30 Try.underlying28 (by kernel_rfl) (by kernel_rfl) (hval 2 30 v2 rfl rfl) h2
  clear hA0 hval0
  refine (gaugesSpread_walk a0 a1 z0 z1 (by simpa [Lit.wf, IntKind.min, IntKind.max, IntKind.signed, IntKind.bits] using w0) (by simpa [Lit.wf, IntKind.min, IntKind.max, IntKind.signed, IntKind.bits] using w1) (by simpa [Lit.wf, IntKind.min, IntKind.max, IntKind.signed, IntKind.bits] using wz0) (by simpa [Lit.wf, IntKind.min, IntKind.max, IntKind.signed, IntKind.bits] using wz1) W).mono fun e W' ⟨he, bel⟩ => ?_
  subst he
  exact ⟨_, rfl, _, _, _, [], _, [], hW', trodAll_mk1 (shut_bool Try.underlying4 _), (trodAll_cons_mk (Below.trod laidOut (by kernel_rfl) (of_decide_eq_true (by kernel_rfl)) k0 bel lt0) (trodAll_cons_mk (Below.trod laidOut (by kernel_rfl) (of_decide_eq_true (by kernel_rfl)) k1 bel lt1) (trodAll_cons_mk (Below.trod laidOut (by kernel_rfl) (of_decide_eq_true (by kernel_rfl)) k2 bel lt2) trodAll_mk0))), rfl, bel.frame _, fun h => by cases h⟩

theorem over : Rows.gaugesSpreadRow.holds Try.pinned (OpenSpec.ofChange Rows.gaugesSpreadSpec) :=
  OpenClaim.holds_of_wide 5 Try.f5 rfl rfl rfl rfl rfl rfl rfl ⟨rfl, rfl, rfl, rfl, rfl⟩ rfl rfl rfl rfl rfl (by kernel_rfl) Try.func5 (by kernel_rfl)
    (of_decide_eq_true (by kernel_rfl)) (by unfold Func.isWrapper; first | (rw [if_pos (by decide +kernel)]; kernel_rfl) | (rw [if_neg (by decide +kernel)]; exact ⟨rfl, rfl⟩))
    (fun os started H enc _ => lifted os started H enc)

theorem proved : Rows.GaugesSpreadSaid := over
end lawGaugesSpread
end Go.Proofs.Ytknkpmckgaloaaa

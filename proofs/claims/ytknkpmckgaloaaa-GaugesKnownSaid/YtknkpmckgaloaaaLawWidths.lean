/-
  GaugesWidths: the law, for every input.
-/
import Derived.Test.YtknkpmckgaloaaaOutl
import Derived.Test.YtknkpmckgaloaaaPw
import Derived.ProofKit
import Derived.OpenShut
import Derived.ShutString
import Derived.ChangeOld
namespace Go.Proofs.Ytknkpmckgaloaaa
open Go.ChangeShapes Go.WideShapes Go.ChangeAt Go.RowKit

/-- What Widths can answer for an outline that is valid, and N rows. -/
def WRes (w : World) (N : Nat) (W : Nat → Int) (e : Ending) (w' : World) : Prop :=
  ∃ ao m cp c, e = .returned (.tuple #[.slice ao m cp, .int .i64 c]) ∧ Below w.heap.size w w' ∧
    ((c = 14 ∧ m = 0 ∧ (N = 0 ∨ ∃ k, k < N ∧ W k = 0)) ∨ (c = 0 ∧ m = N ∧ cp = N ∧ 1 ≤ N ∧ (∀ k, k < N → W k ≠ 0) ∧ ∃ g, ao = some ⟨g, 0, none⟩ ∧ g < w'.heap.size ∧ IntsAt w' g ((List.range N).map W)))
theorem widths_res (n cap : Nat) (h v : Nat → Int) (s r : Int) (bk off : Nat) (w : World) (hn : n ≤ 100000) (hlt : bk < w.heap.size) (hp : PtsAt w bk off n h v) (hv : validP n h v) (hok : gaugeOk s r) (N : Nat) (hN : N ≤ 400) (hrows : rowsOf r (h (n - 1)) = (N : Int)) :
    Calls Try.prog 17 #[.agg #[.int .i64 s, .int .i64 r], .slice (some ⟨bk, off, none⟩) n cap] w (WRes w N (widthAt n h v s r)) := by
  by_cases hz : N = 0 ∨ ∃ k, k < N ∧ widthAt n h v s r k = 0
  · refine (widths_zero n cap h v s r bk off w hn hlt hp hv hok N hN hrows hz).mono ?_
    rintro e w' ⟨rfl, hB⟩
    exact ⟨none, 0, 0, 14, rfl, hB, .inl ⟨rfl, rfl, hz⟩⟩
  · have h1 : 1 ≤ N := by
      have : N ≠ 0 := fun e => hz (.inl e)
      omega
    have hnz : ∀ k, k < N → widthAt n h v s r k ≠ 0 := fun k hk e => hz (.inr ⟨k, hk, e⟩)
    refine (widths_ok n cap h v s r bk off w hn hlt hp hv hok N hN hrows h1 hnz).mono ?_
    rintro e w' ⟨g, rfl, ho, hB⟩
    refine ⟨_, _, _, _, rfl, hB, .inr ⟨rfl, rfl, rfl, h1, hnz, g, rfl, (ho.lt g rfl).2, ?_⟩⟩
    refine ints_at ho ?_
    simp [vals, ints]

theorem out_valid (u v : Nat → Int) (m : Nat) (hm : m ≤ 8) (hu : ∀ k, k < m → (0 ≤ u k ∧ u k ≤ 255) ∧ (0 ≤ v k ∧ v k ≤ 255)) (h1 : 1 ≤ m) : validP (m + 1) (oH u) (oV v) := by
  refine ⟨by omega, rfl, fun k hk => ?_⟩
  have hh := oH_bd u k fun j hj => (hu j (by omega)).1
  refine ⟨?_, hh.1, ?_, by omega, fun h0 => ?_⟩
  · cases k with
    | zero => exact (by decide : (0 : Int) ≤ 40)
    | succ k => exact (hu k (by omega)).2.1
  · cases k with
    | zero => exact (by decide : (40 : Int) ≤ 20000)
    | succ k => have h := (hu k (by omega)).2.2; show v k ≤ 20000; omega
  · obtain ⟨j, rfl⟩ : ∃ j, k = j + 1 := ⟨k - 1, by omega⟩
    have := (hu j (by omega)).1.1
    show oH u j ≤ oH u j + u j
    omega

set_option maxRecDepth 20000 in
set_option maxHeartbeats 4000000 in
theorem gaugesWidths_few (a b : Int) (cap : Nat) (u v : Nat → Int) (ao : Option Addr) (w : World) (ha : 0 ≤ a ∧ a ≤ 65535) (hb : 0 ≤ b ∧ b ≤ 65535) :
    Calls Try.prog 6 #[.int .u16 a, .int .u16 b, .slice ao 0 cap] w (LivesPost w) := by
  obtain ⟨a1, a2⟩ := ha
  obtain ⟨b1, b2⟩ := hb
  have hg : gaugeOk (1 + a % 400) (1 + b % 400) := by unfold gaugeOk; omega
  have HG := Lib.hid hg
  have HO : Hid (∀ w1, Calls Try.prog 16 #[.slice ao 0 cap] w1 (OutPost w1 1 (oH u) (oV v))) := Lib.hid (fun w1 => outline_any 0 cap u v ao w1 (Nat.zero_le _) (fun k hk => absurd hk (Nat.not_lt_zero _)) (.inl rfl))
  clear hg
  go_enter Try.func6, Try.ntmps6
  go_wp2_with fail
  refine (HO.out _).mono ?_; rintro e w1 ⟨g, c, rfl, hp, hg1, hg2, hB⟩
  have hp2 := hp
  clear hp
  have c1 : w1.cell? ⟨w.heap.size, 0, none⟩ = some (.int .i64 (1 + a % 400)) := (hB.cell (p := ⟨w.heap.size, 0, none⟩) (by simp)).trans (by simp [go_sem])
  have c2 : w1.cell? ⟨w.heap.size, 1, none⟩ = some (.int .i64 (1 + b % 400)) := (hB.cell (p := ⟨w.heap.size, 1, none⟩) (by simp)).trans (by simp [go_sem])
  go_wp2_with fail
  refine (widths_outline 1 _ _ _ _ _ HG.out fun w2 _ => valid_few 1 _ _ w2 (by omega)).mono ?_; rintro e w2 ⟨rfl, hB2⟩
  have hBB : Below w.heap.size w w2 := (Below.trans (by go_grown) (hB.mono (by simp))).trans (hB2.mono (by have := hB.size; simp at this; omega))
  clear hB hB2
  go_wp2_with fail
  refine (lives_any _).mono ?_; rintro e w3 ⟨rfl, hB3⟩
  go_wp2
  go_ret
  exact ⟨rfl, hBB.trans (hB3.mono hBB.size)⟩

theorem rows_any (r top : Int) (w : World) (hr : 1 ≤ r) (hr2 : r ≤ 400) (ht : 0 ≤ top) (ht2 : top ≤ 20000) (N : Nat) (hN : rowsOf r top = N) :
    Calls Try.prog 10 #[.int .i64 r, .int .i64 top] w fun e w' => e = .returned (two (N : Int) 0) ∧ w = w' := by
  have := count_yes r top w ⟨hr, hr2, ht, ht2⟩
  unfold rowsOf at hN
  rwa [hN] at this

set_option maxRecDepth 20000 in
set_option maxHeartbeats 4000000 in
theorem gaugesWidths_limit (a b : Int) (n cap m : Nat) (u v : Nat → Int) (ao : Option Addr) (w : World) (ha : 0 ≤ a ∧ a ≤ 65535) (hb : 0 ≤ b ∧ b ≤ 65535)
    (HO : Hid (∀ w1, Below w.heap.size w w1 → Calls Try.prog 16 #[.slice ao n cap] w1 (OutPost w1 (m + 1) (oH u) (oV v)))) (hm1 : 1 ≤ m) (hm : m ≤ 8) (hv : validP (m + 1) (oH u) (oV v))
    (N : Nat) (hN : rowsOf (1 + b % 400) (oH u m) = N) (hbig : 400 < N) :
    Calls Try.prog 6 #[.int .u16 a, .int .u16 b, .slice ao n cap] w (LivesPost w) := by
  obtain ⟨a1, a2⟩ := ha
  obtain ⟨b1, b2⟩ := hb
  have hg : gaugeOk (1 + a % 400) (1 + b % 400) := by unfold gaugeOk; omega
  obtain ⟨_, t1, t2, _⟩ := hv.2.2 m (by omega)
  have t3 : oH u m ≤ 20000 := (hv.2.2 m (by omega)).2.2.2.1
  have t4 : (N : Int) ≤ 80000 := by
    have h := rnd_le2 ((1 + b % 400) * oH u m) 100 80000 (by omega) (by have := mul_bd (1 + b % 400) (oH u m) 400 20000 (by omega) (by omega) t1 t3; omega)
    unfold rowsOf at hN
    omega
  have HG := Lib.hid hg
  have HV := Lib.hid hv
  have HN := Lib.hid hN
  have HR := Lib.hid (fun w1 => rows_any (1 + b % 400) (oH u m) w1 (by omega) (by omega) t1 t3 N hN)
  clear hg hv hN
  go_enter Try.func6, Try.ntmps6
  go_wp2_with fail
  refine (HO.out _ (by go_grown)).mono ?_; rintro e w1 ⟨g, c, rfl, hp, hg1, hg2, hB⟩
  have HP := Lib.hid hp
  clear hp
  have c1 : w1.cell? ⟨w.heap.size, 0, none⟩ = some (.int .i64 (1 + a % 400)) := (hB.cell (p := ⟨w.heap.size, 0, none⟩) (by simp)).trans (by simp [go_sem])
  have c2 : w1.cell? ⟨w.heap.size, 1, none⟩ = some (.int .i64 (1 + b % 400)) := (hB.cell (p := ⟨w.heap.size, 1, none⟩) (by simp)).trans (by simp [go_sem])
  go_wp2_with fail
  refine (widths_limit (m + 1) _ _ _ _ _ _ _ _ (by omega) hg2 HP.out HV.out HG.out (by rw [Nat.add_sub_cancel, HN.out]; omega)).mono ?_; rintro e w2 ⟨rfl, hB2⟩
  have hBB : Below w.heap.size w w2 := (Below.trans (by go_grown) (hB.mono (by simp))).trans (hB2.mono (by have := hB.size; simp at this; omega))
  have c3 := (hB2.cell (p := ⟨w.heap.size, 1, none⟩) (by have := hB.size; simp at this; show w.heap.size < w1.heap.size; omega)).trans c2
  have c4 : w2.cell? ⟨g, m * 2, none⟩ = some (.int .i64 (oH u m)) := (hB2.cell (p := ⟨g, m * 2, none⟩) hg2).trans (by have := (HP.out m (by omega)).1; rwa [Nat.zero_add] at this)
  clear hB hB2 c1 c2
  go_wp2_with fail
  refine (HR.out _).mono ?_; rintro e w' ⟨rfl, rfl⟩
  go_wp2_with fail
  refine (lives_any _).mono ?_; rintro e w3 ⟨rfl, hB3⟩
  go_wp2
  go_ret
  exact ⟨rfl, hBB.trans (hB3.mono hBB.size)⟩

/-- The first k points fall. -/
def fallsB (v : Nat → Int) (k : Nat) : Bool := (List.range k).all fun j => decide (j = 0) || decide (v j ≤ v (j - 1))
theorem fallsB_succ (v : Nat → Int) (k : Nat) (h : 1 ≤ k) : fallsB v (k + 1) = (fallsB v k && decide (v k ≤ v (k - 1))) := by
  have : decide (k = 0) = false := by simp; omega
  simp [fallsB, List.range_succ, this]
theorem fallsB_all (v : Nat → Int) (n : Nat) (h : fallsB v n = true) : ∀ k, k + 1 < n → v (k + 1) ≤ v k := by
  intro k hk
  simp only [fallsB, List.all_eq_true, List.mem_range, Bool.or_eq_true, decide_eq_true_eq] at h
  have := (h (k + 1) hk).resolve_left (by omega)
  simpa using this

theorem same_wn (L : List Int) (n a b cb : Nat) (w : World) (hn : L.length = n) (hl : n ≤ 1000000) (ha : IntsAt w a L) (hb : IntsAt w b L) :
    Calls Try.prog 18 #[.slice (some ⟨a, 0, none⟩) n n, .slice (some ⟨b, 0, none⟩) n cb] w fun e w' => e = .returned (.bool true) ∧ ∃ n, w' = w.drewN n := by
  subst hn
  exact same_yes L a b cb w hl ha hb

theorem wmap_len (W : Nat → Int) (N : Nat) : ((List.range N).map W).length = N := by simp
theorem wmap_get (W : Nat → Int) (N k : Nat) (h : k < N) : ((List.range N).map W).getD k 0 = W k := by simp [h]
theorem wmap_vals (W : Nat → Int) (N : Nat) : ints N W = vals ((List.range N).map W) := by simp [vals, ints]

/-- A row above the top: its width. -/
theorem width_top (n : Nat) (h v : Nat → Int) (s r : Int) (k : Nat) (hc : h (n - 1) * 2 * r ≤ 100 * (2 * (k : Int) + 1)) : (2 * (v (n - 1) * s) + 100) / 200 = widthAt n h v s r k := by
  rw [Int.mul_assoc] at hc
  unfold widthAt aN aD rnd
  rw [if_pos hc, if_pos hc]
  rfl
/-- A row below the top: its width, by the law's own fraction. -/
theorem width_mid (n : Nat) (h v : Nat → Int) (s r : Int) (k : Nat) (hc : ¬ h (n - 1) * 2 * r ≤ 100 * (2 * (k : Int) + 1)) :
    (2 * (lawNum h v r (100 * (2 * (k : Int) + 1)) (seek h (2 * r) (100 * (2 * (k : Int) + 1)) (n - 1) 0) * s) + 100 * lawDen h r (seek h (2 * r) (100 * (2 * (k : Int) + 1)) (n - 1) 0)) / (2 * (100 * lawDen h r (seek h (2 * r) (100 * (2 * (k : Int) + 1)) (n - 1) 0))) = widthAt n h v s r k := by
  rw [Int.mul_assoc] at hc
  unfold widthAt aN aD rnd
  rw [if_neg hc, if_neg hc, law_num, law_den]

def sel (j i : Nat) (x y : Int) : Int := if j < i then x else y
theorem sel_in (j i : Nat) (x y : Int) (h : j < i) : sel j i x y = x := if_pos h
theorem sel_out (j i : Nat) (x y : Int) (h : ¬ j < i) : sel j i x y = y := if_neg h
theorem mul_mono2 {x y : Int} (h : x ≤ y) (r : Int) (hr : 0 ≤ r) : x * 2 * r ≤ y * 2 * r := Int.mul_le_mul_of_nonneg_right (by omega) hr

theorem rowsOf_nat2 (r top : Int) (hr : 0 ≤ r) (ht : 0 ≤ top) : ∃ N : Nat, rowsOf r top = N := ⟨(rowsOf r top).toNat, by
  have := (rnd_bd (r * top) 100 (Int.mul_nonneg hr ht) (by omega)).1
  unfold rowsOf
  omega⟩


set_option maxRecDepth 20000 in
set_option maxHeartbeats 16000000 in
theorem gaugesWidths_main (a b : Int) (n cap m : Nat) (u v : Nat → Int) (ao : Option Addr) (w : World) (ha : 0 ≤ a ∧ a ≤ 65535) (hb : 0 ≤ b ∧ b ≤ 65535)
    (HO : Hid (∀ w1, Below w.heap.size w w1 → Calls Try.prog 16 #[.slice ao n cap] w1 (OutPost w1 (m + 1) (oH u) (oV v)))) (hm1 : 1 ≤ m) (hm : m ≤ 8) (hv : validP (m + 1) (oH u) (oV v))
    (N : Nat) (hN : rowsOf (1 + b % 400) (oH u m) = N) (hbig : N ≤ 400) :
    Calls Try.prog 6 #[.int .u16 a, .int .u16 b, .slice ao n cap] w (LivesPost w) := by
  obtain ⟨a1, a2⟩ := ha
  obtain ⟨b1, b2⟩ := hb
  obtain ⟨s, hs⟩ : ∃ s, s = 1 + a % 400 := ⟨_, rfl⟩
  obtain ⟨r, hr⟩ : ∃ r, r = 1 + b % 400 := ⟨_, rfl⟩
  have s1 : 1 ≤ s := by omega
  have s2 : s ≤ 400 := by omega
  have r1 : 1 ≤ r := by omega
  have r2 : r ≤ 400 := by omega
  have HS := Lib.hid hs
  have HR0 := Lib.hid hr
  rw [← hr] at hN
  clear hs hr
  have hg : gaugeOk s r := ⟨s1, s2, r1, r2⟩
  have hpo := validP_ok hv
  obtain ⟨t1, t3, v1, v2⟩ := hpo.2.2.1 m (by omega)
  have HW := Lib.hid (fun w1 g (hlt : g < w1.heap.size) (hp : PtsAt w1 g 0 (m + 1) (oH u) (oV v)) c => widths_res (m + 1) c (oH u) (oV v) s r g 0 w1 (by omega) hlt hp hv hg N hbig hN)
  have HR := Lib.hid (fun w1 => rows_any r (oH u m) w1 r1 r2 t1 t3 N hN)
  have HB := Lib.hid hpo
  have HU := Lib.hid (fun h => widthAt_falls (m + 1) (oH u) (oV v) s r hpo s1 r1 (by omega) h)
  obtain ⟨W, hW⟩ : ∃ W, W = widthAt (m + 1) (oH u) (oV v) s r := ⟨_, rfl⟩
  have HWE := Lib.hid hW
  rw [← hW] at HW HU
  clear hg hv hN hpo hW
  go_enter Try.func6, Try.ntmps6
  go_wp2_with fail
  refine (HO.out _ (by go_grown)).mono ?_; rintro e w1 ⟨g, c0, rfl, hp, hg1, hg2, hB⟩
  have HP := Lib.hid hp
  clear hp
  have c1 : w1.cell? ⟨w.heap.size, 0, none⟩ = some (.int .i64 s) := (hB.cell (p := ⟨w.heap.size, 0, none⟩) (by simp)).trans (by rw [HS.out]; simp [go_sem])
  have c2 : w1.cell? ⟨w.heap.size, 1, none⟩ = some (.int .i64 r) := (hB.cell (p := ⟨w.heap.size, 1, none⟩) (by simp)).trans (by rw [HR0.out]; simp [go_sem])
  go_wp2_with fail
  refine (HW.out _ g hg2 HP.out _).mono ?_; rintro e w2 ⟨ao2, mm, cp, c, rfl, hB2, hA⟩
  have hBB : Below w.heap.size w w2 := (Below.trans (by go_grown) (hB.mono (by simp))).trans (hB2.mono (by have := hB.size; simp at this; omega))
  have hz2 := hB2.size
  have hz1 : w.heap.size < w1.heap.size := by have := hB.size; simp at this; omega
  have c3 := (hB2.cell (p := ⟨w.heap.size, 0, none⟩) hz1).trans c1
  have c4 := (hB2.cell (p := ⟨w.heap.size, 1, none⟩) hz1).trans c2
  have HP2 : Hid (∀ k, k < m + 1 → w2.cell? ⟨g, k * 2, none⟩ = some (.int .i64 (oH u k)) ∧ w2.cell? ⟨g, k * 2 + 1, none⟩ = some (.int .i64 (oV v k))) := Lib.hid fun k hk => by
    obtain ⟨p1, p2⟩ := HP.out k hk
    rw [Nat.zero_add] at p1 p2
    exact ⟨(hB2.cell (p := ⟨g, k * 2, none⟩) hg2).trans p1, (hB2.cell (p := ⟨g, k * 2 + 1, none⟩) hg2).trans p2⟩
  have hg3 : g < w2.heap.size := by omega
  have hw3 : w.heap.size < w2.heap.size := by omega
  have HAn := Lib.hid hA
  have c5 := (HP2.out m (by omega)).1
  clear hB hB2 c1 c2 HP HW HO hA hz1 hz2 hg2
  have x1 : decide ((m : Int) + 1 < 2) = false := by simp; omega
  go_wp2_with fail
  clear x1
  refine (HR.out _).mono ?_; rintro e w' ⟨rfl, rfl⟩
  clear HR c5
  have x2 : decide (400 < (N : Int)) = false := by simp; omega
  go_wp2_with fail
  clear x2
  go_loopw [15, 16] (fun f i wr => ∃ k : Nat, 1 ≤ k ∧ k ≤ m + 1 ∧ f = .bool (fallsB (oV v) k) ∧ i = .int .i64 k ∧ ∃ nn, wr = w2.drewN nn) (fun _ i _ => m + 1 - (intOf i).toNat)
  case atStart => exact ⟨1, by omega, by omega, rfl, rfl, 0, rfl⟩
  case round =>
    obtain ⟨k, hk1, hk, rfl, rfl, nn, rfl⟩ := hrel
    by_cases hkm : k < m + 1
    · have HE := Lib.hid (fallsB_succ (oV v) k hk1)
      obtain ⟨_, e1⟩ := HP2.out k hkm
      obtain ⟨_, e2⟩ := HP2.out (k - 1) (by omega)
      generalize fallsB (oV v) k = G at *
      cases G
      · go_wp2
        go_quiet (fail)
        go_wp2
        go_roundw
        case rel => exact ⟨k + 1, by omega, by omega, by rw [HE.out]; rfl, by go_num, _, rfl⟩
        case measure => simp [intOf]; omega
      · rcases hd : decide (oV v k ≤ oV v (k - 1))
        all_goals
          have hd2 := hd
          simp only [decide_eq_true_eq, decide_eq_false_iff_not] at hd2
          go_wp2
          go_quiet (fail)
          go_wp2
          go_roundw
          case rel => exact ⟨k + 1, by omega, by omega, by rw [HE.out, hd]; rfl, by go_num, _, rfl⟩
          case measure => simp [intOf]; omega
    · have HK := Lib.hid (show k = m + 1 by omega)
      have HF : Hid (fallsB (oV v) k = true → ∀ (k : Nat), k + 1 < m + 1 → oV v (k + 1) ≤ oV v k) := Lib.hid (by rw [HK.out]; exact fallsB_all (oV v) (m + 1))
      generalize fallsB (oV v) k = F at *
      have hk4 : (m : Int) + 1 ≤ k := by omega
      obtain ⟨k9, hk9⟩ : ∃ x : Int, x = k := ⟨_, rfl⟩
      rw [← hk9] at hk4 ⊢
      clear hkm hk1 hk HK hk9
      obtain ⟨i0, hi, hz0, hz1, hz2⟩ := info_parts even_info
      go_wp2_with fail
      go_loopw [14, 17] (fun o i wr => ∃ k : Nat, k ≤ N ∧ i = .int .i64 k ∧ wr.ownsRow w2.heap.size 3 1 o k (ints k W) ∧ Below w2.heap.size w2 wr ∧ Hid (∀ j, j < k → W j ≠ 0)) (fun _ i _ => N - (intOf i).toNat)
      case atStart => exact ⟨0, by omega, rfl, ⟨rfl, .inl ⟨rfl, rfl⟩⟩, below_drewN (Below.refl _ _) _, Lib.hid (fun j hj => absurd hj (Nat.not_lt_zero _))⟩
      case round =>
        obtain ⟨k, hk, rfl, ho, hB3, HZ⟩ := hrel
        have HO := Lib.hid ho
        clear ho
        by_cases hkN : k < N
        · have c5 := (hB3.cell (p := ⟨w.heap.size, 0, none⟩) hw3).trans c3
          have c6 := (hB3.cell (p := ⟨w.heap.size, 1, none⟩) hw3).trans c4
          have HP3 : Hid (∀ k, k < m + 1 → wr.cell? ⟨g, k * 2, none⟩ = some (.int .i64 (oH u k)) ∧ wr.cell? ⟨g, k * 2 + 1, none⟩ = some (.int .i64 (oV v k))) := Lib.hid fun k hk => by
            obtain ⟨p1, p2⟩ := HP2.out k hk
            exact ⟨(hB3.cell (p := ⟨g, k * 2, none⟩) hg3).trans p1, (hB3.cell (p := ⟨g, k * 2 + 1, none⟩) hg3).trans p2⟩
          obtain ⟨_, e1⟩ := HP3.out m (by omega)
          obtain ⟨m1, m2⟩ := mul_bd (oV v m) s 20000 400 v1 v2 (by omega) s2
          obtain ⟨m3, m4⟩ := mul_bd (oH u m * 2) r 40000 400 (by omega) (by omega) (by omega) r2
          by_cases hc : oH u m * 2 * r ≤ 100 * (2 * (k : Int) + 1)
          · have hq : (2 * (oV v m * s) + 100) / 200 = W k := by rw [HWE.out]; exact width_top (m + 1) (oH u) (oV v) s r k hc
            have HQ := Lib.hid hq
            clear hq
            go_wp2
            go_quiet (fail)
            go_wp2_with fail
            go_loop [19, 20, 21] (fun nu de i => nu = .int .i64 (oV v m * s) ∧ de = .int .i64 100 ∧ i = .int .i64 0) (fun _ _ _ => 0)
            case atStart => exact ⟨rfl, rfl, rfl⟩
            case round =>
              obtain ⟨rfl, rfl, rfl⟩ := hrel
              have hq := HQ.out
              have hsz := hB3.size
              by_cases hx : W k = 0
              · have hx0 := hx
                rcases HAn.out with ⟨rfl, rfl, _⟩ | ⟨_, _, _, _, hnz, _⟩
                · clear hx0
                  rw [hx] at hq
                  go_wp2_with fail
                  refine (lives_any _).mono ?_; rintro e w5 ⟨rfl, hB5⟩
                  go_wp2
                  go_ret
                  exact ⟨rfl, (hBB.trans ((below_drewN hB3 _).mono hBB.size)).trans (hB5.mono (Nat.le_trans hBB.size (below_drewN hB3 _).size))⟩
                · exact absurd hx0 (hnz k hkN)
              · have HZ2 : Hid (∀ j, j < k + 1 → W j ≠ 0) := Lib.hid (fun j hj => by
                  by_cases hjk : j = k
                  · subst hjk; exact hx
                  · exact HZ.out j (by omega))
                have hx2 : (W k == 0) = false := by simpa using hx
                clear hx
                go_wp2_with (at_builtin; refine wpList_append_own_at _ rfl _ _ 31 rfl w2.heap.size 3 i0 (.int .i64 0) 1 8 Try.underlying31 hi hz0 hz1 hz2 rfl (by decide) _ _ _ rfl (HO.out.alloc _) ⟨wr.heap.size, 0, none⟩ 1 1 [.int .i64 (W k)] rfl rfl (cell_one_new _ _ _) (ints_oneCell .i64 [_]) (by unfold maxLen; omega) (by omega) (by simp; omega) ?_; intro v' w3 hown' hgrow hnil hloc)
                go_roundw
                case rel => exact ⟨k + 1, by omega, by go_num, by rw [ints_snoc]; exact hown', Below.grown ((below_drewN hB3 _).alloc (below_drewN hB3 _).size _) hgrow (by simp; omega) (fun q hq3 => (HO.out.lt q hq3).1), HZ2⟩
                case measure => simp [intOf]; omega
          · have hc2 : 100 * (2 * (k : Int) + 1) < oH u m * 2 * r := by omega
            have hcN : ¬ oH u (m + 1 - 1) * (2 * r) ≤ 100 * (2 * (k : Int) + 1) := by rw [← Int.mul_assoc]; exact hc
            have hq : (2 * (lawNum (oH u) (oV v) r (100 * (2 * (k : Int) + 1)) (seek (oH u) (2 * r) (100 * (2 * (k : Int) + 1)) (m + 1 - 1) 0) * s) + 100 * lawDen (oH u) r (seek (oH u) (2 * r) (100 * (2 * (k : Int) + 1)) (m + 1 - 1) 0)) / (2 * (100 * lawDen (oH u) r (seek (oH u) (2 * r) (100 * (2 * (k : Int) + 1)) (m + 1 - 1) 0))) = W k := by
              rw [HWE.out]
              exact width_mid (m + 1) (oH u) (oV v) s r k hc
            obtain ⟨f1, f2, f3⟩ := seek_facts (m + 1) (oH u) (oV v) (2 * r) (100 * (2 * (k : Int) + 1)) HB.out (by omega) (by omega) hcN
            obtain ⟨q1, q2, q3, q4⟩ := aD_bd (m + 1) (oH u) (oV v) (2 * r) (100 * (2 * (k : Int) + 1)) HB.out (by omega) (by omega) (by omega)
            obtain ⟨q5, q6⟩ := num_bd _ _ s q1 q2 q3 q4 s1 s2
            unfold aD at q1 q2
            unfold aN at q5 q6
            rw [if_neg hcN] at q1 q2 q5 q6
            rw [law_num] at q5 q6
            rw [law_den] at q1 q2
            clear q3 q4
            generalize seek (oH u) (2 * r) (100 * (2 * (k : Int) + 1)) (m + 1 - 1) 0 = j at *
            have e2 : oH u j * (2 * r) = oH u j * 2 * r := (Int.mul_assoc _ _ _).symm
            have e3 : oH u (j + 1) * (2 * r) = oH u (j + 1) * 2 * r := (Int.mul_assoc _ _ _).symm
            rw [e2] at f2
            rw [e3] at f3
            clear e2 e3 hcN
            obtain ⟨X, hX⟩ : ∃ X, X = lawNum (oH u) (oV v) r (100 * (2 * (k : Int) + 1)) j * s := ⟨_, rfl⟩
            obtain ⟨D, hD⟩ : ∃ D, D = lawDen (oH u) r j := ⟨_, rfl⟩
            rw [← hX, ← hD] at hq
            rw [← hX] at q5 q6
            rw [← hD] at q1 q2
            have HX := Lib.hid hX
            have HD := Lib.hid hD
            have HQ := Lib.hid hq
            clear hX hD hq
            go_wp2
            go_quiet (fail)
            go_wp2_with fail
            go_loopw [19, 20, 21] (fun nu de i wi => ∃ i2 : Nat, i2 ≤ m ∧ i = .int .i64 i2 ∧ nu = .int .i64 (sel j i2 X (oV v m * s)) ∧ de = .int .i64 (sel j i2 (100 * D) 100) ∧ ∃ nn, wi = wr.drewN nn) (fun _ _ i _ => m - (intOf i).toNat)
            case atStart => exact ⟨0, by omega, rfl, rfl, rfl, _, rfl⟩
            case round =>
              obtain ⟨i2, hi2, rfl, rfl, rfl, nn2, rfl⟩ := hrel
              by_cases him : i2 < m
              · obtain ⟨p1, p2⟩ := HP3.out i2 (by omega)
                obtain ⟨p3, p4⟩ := HP3.out (i2 + 1) (by omega)
                obtain ⟨g1, g2, g3, g4⟩ := HB.out.2.2.1 i2 (by omega)
                obtain ⟨g5, g6, g7, g8⟩ := HB.out.2.2.1 (i2 + 1) (by omega)
                obtain ⟨g9, g10⟩ := mul_bd (oH u i2 * 2) r 40000 400 (by omega) (by omega) (by omega) r2
                obtain ⟨g11, g12⟩ := mul_bd (oH u (i2 + 1) * 2) r 40000 400 (by omega) (by omega) (by omega) r2
                by_cases hij : i2 = j
                · subst hij
                  obtain ⟨n1, n2⟩ := mul_bd (oV v i2) (oH u (i2 + 1) * 2 * r - 100 * (2 * (k : Int) + 1)) 20000 16000000 g3 g4 (by omega) (by omega)
                  obtain ⟨n3, n4⟩ := mul_bd (oV v (i2 + 1)) (100 * (2 * (k : Int) + 1) - oH u i2 * 2 * r) 20000 16000000 g7 g8 (by omega) (by omega)
                  obtain ⟨n5, n6⟩ := mul_bd (oV v i2 * (oH u (i2 + 1) * 2 * r - 100 * (2 * (k : Int) + 1)) + oV v (i2 + 1) * (100 * (2 * (k : Int) + 1) - oH u i2 * 2 * r)) s 640000000000 400 (by omega) (by omega) (by omega) s2
                  go_wp2
                  go_quiet (fail)
                  go_wp2
                  go_quiet (fail)
                  go_wp2
                  go_roundw
                  case rel => exact ⟨i2 + 1, by omega, by go_num, by rw [sel_in _ _ _ _ (by omega), HX.out]; rfl, by rw [sel_in _ _ _ _ (by omega), HD.out]; rfl, _, rfl⟩
                  case measure => simp [intOf]; omega
                · by_cases hlt : i2 < j
                  · have e5 := mul_mono2 (mono_le2 (oH u) (m + 1) HB.out.2.2.2 (i2 + 1) j (by omega) (by omega)) r (by omega)
                    go_wp2
                    go_quiet (fail)
                    go_wp2
                    all_goals
                      go_roundw
                      case rel => exact ⟨i2 + 1, by omega, by go_num, by rw [sel_out _ _ _ _ (by omega), sel_out _ _ _ _ (by omega)], by rw [sel_out _ _ _ _ (by omega), sel_out _ _ _ _ (by omega)], _, rfl⟩
                      case measure => simp [intOf]; omega
                  · have e5 := mul_mono2 (mono_le2 (oH u) (m + 1) HB.out.2.2.2 (j + 1) i2 (by omega) (by omega)) r (by omega)
                    go_wp2
                    go_quiet (fail)
                    go_wp2
                    all_goals
                      go_roundw
                      case rel => exact ⟨i2 + 1, by omega, by go_num, by rw [sel_in _ _ _ _ (by omega), sel_in _ _ _ _ (by omega)], by rw [sel_in _ _ _ _ (by omega), sel_in _ _ _ _ (by omega)], _, rfl⟩
                      case measure => simp [intOf]; omega
              · obtain rfl : i2 = m := by omega
                rw [sel_in _ _ _ _ (by omega), sel_in _ _ _ _ (by omega)]
                have hq := HQ.out
                have hsz := hB3.size
                by_cases hx : W k = 0
                · have hx0 := hx
                  rcases HAn.out with ⟨rfl, rfl, _⟩ | ⟨_, _, _, _, hnz, _⟩
                  · clear hx0
                    rw [hx] at hq
                    go_wp2_with fail
                    refine (lives_any _).mono ?_; rintro e w5 ⟨rfl, hB5⟩
                    go_wp2
                    go_ret
                    exact ⟨rfl, (hBB.trans ((below_drewN hB3 _).mono hBB.size)).trans (hB5.mono (Nat.le_trans hBB.size (below_drewN hB3 _).size))⟩
                  · exact absurd hx0 (hnz k hkN)
                · have HZ2 : Hid (∀ j, j < k + 1 → W j ≠ 0) := Lib.hid (fun j hj => by
                    by_cases hjk : j = k
                    · subst hjk; exact hx
                    · exact HZ.out j (by omega))
                  have hx2 : (W k == 0) = false := by simpa using hx
                  clear hx
                  go_wp2_with (at_builtin; refine wpList_append_own_at _ rfl _ _ 31 rfl w2.heap.size 3 i0 (.int .i64 0) 1 8 Try.underlying31 hi hz0 hz1 hz2 rfl (by decide) _ _ _ rfl (HO.out.alloc _) ⟨wr.heap.size, 0, none⟩ 1 1 [.int .i64 (W k)] rfl rfl (cell_one_new _ _ _) (ints_oneCell .i64 [_]) (by unfold maxLen; omega) (by omega) (by simp; omega) ?_; intro v' w3 hown' hgrow hnil hloc)
                  go_roundw
                  case rel => exact ⟨k + 1, by omega, by go_num, by rw [ints_snoc]; exact hown', Below.grown ((below_drewN hB3 _).alloc (below_drewN hB3 _).size _) hgrow (by simp; omega) (fun q hq3 => (HO.out.lt q hq3).1), HZ2⟩
                  case measure => simp [intOf]; omega
        · have hkE : N = k := by omega
          subst hkE
          clear hkN hk
          by_cases hN0 : N = 0
          · have h0 : ((N : Int) == 0) = true := by simp; omega
            rcases HAn.out with ⟨rfl, rfl, _⟩ | ⟨_, _, _, h1, _⟩
            · go_wp2_with fail
              refine (lives_any _).mono ?_; rintro e w5 ⟨rfl, hB5⟩
              go_wp2
              go_ret
              exact ⟨rfl, (hBB.trans (hB3.mono hBB.size)).trans (hB5.mono (Nat.le_trans hBB.size hB3.size))⟩
            · omega
          · have h0 : ((N : Int) == 0) = false := by simp; omega
            rcases HAn.out with ⟨_, _, hh⟩ | ⟨h2, h3, h4, h1, _, g4, h5, hg4, hI⟩
            · exfalso
              rcases hh with hh | ⟨j, hj, hz⟩
              · exact hN0 hh
              · exact HZ.out j hj hz
            · subst h2
              obtain rfl := h3.symm
              obtain rfl := h4.symm
              subst h5
              obtain ⟨g2, c2, hu, hg5, hg6⟩ := row_at HO.out h1
              subst hu
              have HI1 := Lib.hid (hI.below hB3 hg4)
              have HI2 := Lib.hid (ints_at HO.out (wmap_vals W N))
              clear hI HO HAn hN0
              go_wp2_with fail
              refine (same_wn ((List.range N).map W) N g4 g2 c2 _ (wmap_len W N) (by omega) HI1.out HI2.out).mono ?_; rintro e w4 ⟨rfl, n1, rfl⟩
              go_wp2_with fail
              go_loopw [25] (fun i wi => ∃ k : Nat, 1 ≤ k ∧ k ≤ N ∧ i = .int .i64 k ∧ ∃ nn, wi = wr.drewN nn) (fun i _ => N - (intOf i).toNat)
              case atStart => exact ⟨1, by omega, h1, rfl, _, rfl⟩
              case round =>
                obtain ⟨k, hk1, hk, rfl, n3, rfl⟩ := hrel
                by_cases hkN : k < N
                · cases F
                  · go_wp2_with fail
                    refine (lives_any _).mono ?_; rintro e w5 ⟨rfl, hB5⟩
                    go_wp2
                    go_ret
                    exact ⟨rfl, (hBB.trans ((below_drewN hB3 _).mono hBB.size)).trans (hB5.mono (Nat.le_trans hBB.size (below_drewN hB3 _).size))⟩
                  · have d1 := HI1.out k (by rw [wmap_len]; exact hkN)
                    have d2 := HI1.out (k - 1) (by rw [wmap_len]; omega)
                    rw [wmap_get _ _ _ hkN] at d1
                    rw [wmap_get _ _ _ (by omega)] at d2
                    have hle := HU.out (HF.out rfl) (k - 1)
                    rw [Nat.sub_add_cancel hk1] at hle
                    go_wp2
                    go_quiet (fail)
                    go_wp2
                    go_roundw
                    case rel => exact ⟨k + 1, by omega, by omega, by go_num, _, rfl⟩
                    case measure => simp [intOf]; omega
                · go_wp2_with fail
                  refine (lives_any _).mono ?_; rintro e w5 ⟨rfl, hB5⟩
                  go_wp2
                  go_ret
                  exact ⟨rfl, (hBB.trans ((below_drewN hB3 _).mono hBB.size)).trans (hB5.mono (Nat.le_trans hBB.size (below_drewN hB3 _).size))⟩

theorem gaugesWidths_walk (a b : Int) (n cap : Nat) (u v : Nat → Int) (ao : Option Addr) (w : World) (ha : 0 ≤ a ∧ a ≤ 65535) (hb : 0 ≤ b ∧ b ≤ 65535) (hn : n ≤ maxLen) (hw : ∀ k, k < n → (0 ≤ u k ∧ u k ≤ 255) ∧ (0 ≤ v k ∧ v k ≤ 255))
    (hp : n = 0 ∨ ∃ b off, ao = some ⟨b, off, none⟩ ∧ b < w.heap.size ∧ PairsOf w .u8 b off n u v) :
    Calls Try.prog 6 #[.int .u16 a, .int .u16 b, .slice ao n cap] w (LivesPost w) := by
  by_cases h0 : n = 0
  · subst h0
    exact gaugesWidths_few a b cap u v ao w ha hb
  · rcases hp with hp | ⟨bk, off, rfl, hbk, hp⟩
    · exact absurd hp h0
    · have HO : Hid (∀ w1, Below w.heap.size w w1 → Calls Try.prog 16 #[.slice (some ⟨bk, off, none⟩) n cap] w1 (OutPost w1 (min n 8 + 1) (oH u) (oV v))) := Lib.hid fun w1 hB =>
        outline_any n cap u v _ w1 hn hw (.inr ⟨bk, off, rfl, Nat.lt_of_lt_of_le hbk hB.size, fun k hk => ⟨(hB.cell (p := ⟨bk, off + k * 2, none⟩) hbk).trans (hp k hk).1, (hB.cell (p := ⟨bk, off + k * 2 + 1, none⟩) hbk).trans (hp k hk).2⟩⟩)
      have hv := out_valid u v (min n 8) (by omega) (fun k hk => hw k (by omega)) (by omega)
      obtain ⟨N, hN⟩ := rowsOf_nat2 (1 + b % 400) (oH u (min n 8)) (by omega) (hv.2.2 (min n 8) (by omega)).2.1
      by_cases hbig : 400 < N
      · exact gaugesWidths_limit a b n cap (min n 8) u v _ w ha hb HO (by omega) (by omega) hv N hN hbig
      · exact gaugesWidths_main a b n cap (min n 8) u v _ w ha hb HO (by omega) (by omega) hv N hN (by omega)

namespace lawGaugesWidths
theorem own : ownKnob Try.prog.godebug = none := by kernel_rfl
theorem laidOut : laidOutB Try.prog = true := by kernel_rfl

set_option maxRecDepth 100000 in
theorem lifted (os : Os) (started : os.Started) (H : Type) (enc : TypeId × Value → H) :
    ReturnsInHanded {} Try.checked os 6 .any (Rows.gaugesWidthsSpec.pre6 enc Try.prog Try.f6 Rows.gaugesWidthsRow.domain false) (Rows.gaugesWidthsSpec.post enc Try.prog Try.f6 false true false false) := by
  refine returnsInHanded_of_change (C := Try.checked) own started (by kernel_rfl) Try.func6
    (ChangeSpec.witness6 (enc := enc) (C := Try.checked) false ⟨#[], #[.int .u16 0, .int .u16 0, .slice none 0 0], []⟩ 8 (by kernel_rfl) (by kernel_rfl) (by kernel_rfl) (by kernel_rfl)) ?_
  intro W base args ds gs before hval0 hW hcnd _
  have hval : ∀ (j : Nat) t v, Try.f6.params[j]? = some t → args[j]? = some v → Value.okWide Try.prog W .any base t v := hval0
  have hW' := hW
  obtain ⟨p, q, hA0, hV, rfl, hfz, hnd⟩ := hW
  have hA : DataW.TrodAll enc Try.prog W 0 (fun _ => true) true Try.f6.params.toList args.toList ds p := hA0
  rw [Try.params6] at hA hval
  obtain ⟨v0, vs0, d0, ds0, p0, q0, hargs, rfl, rfl, h0, r0⟩ := trodAll_cons hA
  obtain ⟨v1, vs1, d1, ds1, p1, q1, rfl, rfl, rfl, h1, r1⟩ := trodAll_cons r0
  obtain ⟨v2, vs2, d2, ds2, p2, q2, rfl, rfl, rfl, h2, r2⟩ := trodAll_cons r1
  obtain ⟨rfl, rfl, rfl⟩ := trodAll_nil r2
  obtain rfl : args = #[v0, v1, v2] := by cases args; simp_all
  obtain ⟨rfl, rfl⟩ := trodVars_none hV
  have k0 := h0
  have lt0 : ∀ x ∈ p0, x.block < W.heap.size := by obtain ⟨m, hm⟩ := k0; exact DataW.trod_lt m _ _ _ hm
  have k1 := h1
  have lt1 : ∀ x ∈ p1, x.block < W.heap.size := by obtain ⟨m, hm⟩ := k1; exact DataW.trod_lt m _ _ _ hm
  have k2 := h2
  have lt2 : ∀ x ∈ p2, x.block < W.heap.size := by obtain ⟨m, hm⟩ := k2; exact DataW.trod_lt m _ _ _ hm
  obtain ⟨a0, rfl, rfl, rfl, w0⟩ := open_int Try.underlying28 (hval 0 28 v0 rfl rfl) h0
  obtain ⟨a1, rfl, rfl, rfl, w1⟩ := open_int Try.underlying28 (hval 1 28 v1 rfl rfl) h1
  obtain ⟨ao0, n0, cap0, rfl⟩ := okWide_slice Try.underlying35 (hval 2 35 v2 rfl rfl)
  obtain ⟨hh, vv, hn, wp, ha⟩ : ∃ hh vv : Nat → Int, n0 ≤ maxLen ∧ (∀ k, k < n0 → (Lit.int .u8 (hh k)).wf = true ∧ (Lit.int .u8 (vv k)).wf = true) ∧ (n0 = 0 ∨ ∃ b off, ao0 = some ⟨b, off, none⟩ ∧ b < W.heap.size ∧ PairsOf W .u8 b off n0 hh vv) := by
    obtain ⟨fuel, hf⟩ := h2
    obtain ⟨ao1, n1, cap1, hh, vv, he, r1, r2, r3⟩ := open_pairs Try.underlying35 Try.underlying49 (by kernel_rfl) rfl rfl (by kernel_rfl) (by kernel_rfl) Try.underlying5 Try.underlying5 hf
    simp [Value.cells] at he
    obtain ⟨rfl, rfl, rfl⟩ := he
    exact ⟨hh, vv, r1, r2, r3⟩
  clear hA0 hval0
  refine (gaugesWidths_walk a0 a1 n0 cap0 hh vv ao0 W (by simpa [Lit.wf, IntKind.min, IntKind.max, IntKind.signed, IntKind.bits] using w0) (by simpa [Lit.wf, IntKind.min, IntKind.max, IntKind.signed, IntKind.bits] using w1) hn (fun k hk => by simpa [Lit.wf, IntKind.min, IntKind.max, IntKind.signed, IntKind.bits] using wp k hk) ha).mono fun e W' ⟨he, bel⟩ => ?_
  subst he
  exact ⟨_, rfl, _, _, _, [], _, [], hW', trodAll_mk1 (shut_bool Try.underlying4 _), (trodAll_cons_mk (Below.trod laidOut (by kernel_rfl) (of_decide_eq_true (by kernel_rfl)) k0 bel lt0) (trodAll_cons_mk (Below.trod laidOut (by kernel_rfl) (of_decide_eq_true (by kernel_rfl)) k1 bel lt1) (trodAll_cons_mk (Below.trod laidOut (by kernel_rfl) (of_decide_eq_true (by kernel_rfl)) k2 bel lt2) trodAll_mk0))), rfl, bel.frame _, fun h => by cases h⟩

theorem over : Rows.gaugesWidthsRow.holds Try.pinned (OpenSpec.ofChange Rows.gaugesWidthsSpec) :=
  OpenClaim.holds_of_wide 6 Try.f6 rfl rfl rfl rfl rfl rfl rfl ⟨rfl, rfl, rfl, rfl, rfl⟩ rfl rfl rfl rfl rfl (by kernel_rfl) Try.func6 (by kernel_rfl)
    (of_decide_eq_true (by kernel_rfl)) (by unfold Func.isWrapper; first | (rw [if_pos (by decide +kernel)]; kernel_rfl) | (rw [if_neg (by decide +kernel)]; exact ⟨rfl, rfl⟩))
    (fun os started H enc _ => lifted os started H enc)

theorem proved : Rows.GaugesWidthsSaid := over
end lawGaugesWidths
end Go.Proofs.Ytknkpmckgaloaaa

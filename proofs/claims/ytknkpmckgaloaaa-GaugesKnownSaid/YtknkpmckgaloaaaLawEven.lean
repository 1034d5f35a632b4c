/-
  GaugesEven: the law, for every input.
-/
import Derived.ChangeSlices
import Derived.Maps.AppendAt
import Derived.Test.YtknkpmckgaloaaaPe
import Derived.Test.YtknkpmckgaloaaaGh
import Derived.ProofKit
import Derived.OpenShut
import Derived.ShutString
import Derived.ChangeOld
namespace Go.Proofs.Ytknkpmckgaloaaa
open Go.ChangeShapes Go.WideShapes Go.ChangeAt Go.RowKit

/-- A slice of numbers that came in. -/
theorem slice_in {w : World} {x : Addr} {n c : Nat} {zs : List Int} (hl : n ≤ c) (hm : c ≤ maxLen) (hz : zs.length = c) (hcell : ∀ i, i < zs.length → w.cell? (x.add i) = some (.int .i64 (zs.getD i 0))) (hwz : ∀ m ∈ zs, (Lit.int .i64 m).wf = true) :
    ∃ l : List Int, n = l.length ∧ l.length ≤ maxLen ∧ (∀ k, -9223372036854775808 ≤ lget l k ∧ lget l k ≤ 9223372036854775807) ∧ SliceOf w (some x) l := by
  have hlen : (zs.take n).length = n := by simp; omega
  refine ⟨zs.take n, hlen.symm, by omega, fun k => ?_, ?_⟩
  · by_cases hk : k < (zs.take n).length
    · have hmem : lget (zs.take n) k ∈ zs := by
        have e : lget (zs.take n) k = (zs.take n)[k] := by
          unfold lget
          rw [List.getD_eq_getElem?_getD, List.getElem?_eq_getElem hk]
          rfl
        rw [e]
        exact List.mem_of_mem_take (List.getElem_mem hk)
      simpa [Lit.wf, IntKind.min, IntKind.max, IntKind.signed, IntKind.bits] using hwz _ hmem
    · have e : lget (zs.take n) k = 0 := by
        unfold lget
        rw [List.getD_eq_getElem?_getD, List.getElem?_eq_none (by omega)]
        rfl
      rw [e]
      omega
  · by_cases h0 : n = 0
    · subst h0
      exact .inl (by simp)
    · obtain ⟨b, off, spot⟩ := x
      have h1 := hcell 0 (by omega)
      have hspot : spot = none := by simpa [Addr.add] using World.cell?_spot h1
      subst hspot
      refine .inr ⟨b, off, rfl, ?_, fun k hk => ?_⟩
      · have := World.block_lt_of_cell? w _ h1
        simpa [Addr.add] using this
      · have h2 := hcell k (by omega)
        rw [add_plain] at h2
        have e : lget (zs.take n) k = zs.getD k 0 := by
          unfold lget
          rw [hlen] at hk
          simp [List.getD_eq_getElem?_getD, hk]
        rw [e]
        exact h2

/-- The first k numbers are widths. -/
def okUpto (l : List Int) (k : Nat) : Bool := (List.range k).all fun j => decide (0 ≤ lget l j ∧ lget l j ≤ 80000)
theorem okUpto_succ (l : List Int) (k : Nat) : okUpto l (k + 1) = (okUpto l k && decide (0 ≤ lget l k ∧ lget l k ≤ 80000)) := by simp [okUpto, List.range_succ]
theorem okUpto_all (l : List Int) (k : Nat) : okUpto l k = true ↔ ∀ j, j < k → 0 ≤ lget l j ∧ lget l j ≤ 80000 := by simp [okUpto]

set_option maxRecDepth 20000 in
set_option maxHeartbeats 2000000 in
theorem gaugesEven_long (l : List Int) (s : Int) (ao : Option Addr) (cap : Nat) (w : World) (hl : l.length ≤ maxLen) (h : 60 < l.length) :
    Calls Try.prog 8 #[.slice ao l.length cap, .int .i64 s] w (LivesPost w) := by
  have hl2 : l.length ≤ 9223372036854775807 := by unfold maxLen at hl; omega
  go_enter Try.func8, Try.ntmps8
  go_wp2_with fail
  refine (lives_any _).mono ?_; rintro e w1 ⟨rfl, hB⟩
  go_wp2
  go_ret
  exact ⟨rfl, hB⟩

set_option maxRecDepth 20000 in
set_option maxHeartbeats 2000000 in
theorem gaugesEven_bad (l : List Int) (s : Int) (ao : Option Addr) (cap : Nat) (w : World) (hl : l.length ≤ 60) (hs : -9223372036854775808 ≤ s ∧ s ≤ 9223372036854775807) (hw : ∀ k, -9223372036854775808 ≤ lget l k ∧ lget l k ≤ 9223372036854775807) (ha : SliceOf w ao l)
    (hbad : (decide (0 ≤ s) && okUpto l l.length) = false)
    (hc : Calls Try.prog 19 #[.slice ao l.length cap, .int .i64 s] w fun e w' => e = .returned (.tuple #[.slice none 0 0, .int .i64 1]) ∧ w = w') :
    Calls Try.prog 8 #[.slice ao l.length cap, .int .i64 s] w (LivesPost w) := by
  have HB := Lib.hid hbad
  have HC := Lib.hid hc
  have HW := Lib.hid hw
  obtain ⟨s1, s2⟩ := hs
  rcases ha with rfl | ⟨b, off, rfl, hb, hcell⟩
  · have h0 : s < 0 := by
      simp [okUpto] at hbad
      omega
    clear hbad hc hw
    go_enter Try.func8, Try.ntmps8
    go_wp2_with fail
    refine (HC.out).mono ?_; rintro e w1 ⟨rfl, rfl⟩
    go_wp2_with fail
    go_loop [7, 8] (fun g i => g = .bool false ∧ i = .int .i64 0) (fun _ _ => 0)
    case atStart => exact ⟨by simp; omega, rfl⟩
    case round =>
      obtain ⟨rfl, rfl⟩ := hrel
      go_wp2_with (go_at_call 14; refine (lives_any _).mono ?_; rintro e w1 ⟨rfl, hB⟩)
      go_ret
      exact ⟨rfl, hB⟩
  · have HA := Lib.hid hcell
    clear hbad hc hw hcell
    go_enter Try.func8, Try.ntmps8
    go_wp2_with fail
    refine (HC.out).mono ?_; rintro e w1 ⟨rfl, rfl⟩
    go_wp2_with fail
    go_loop [7, 8] (fun g i => ∃ k : Nat, k ≤ l.length ∧ g = .bool (decide (0 ≤ s) && okUpto l k) ∧ i = .int .i64 k) (fun _ i => l.length - (intOf i).toNat)
    case atStart => exact ⟨0, by omega, by simp [okUpto], rfl⟩
    case round =>
      obtain ⟨k, hk, rfl, rfl⟩ := hrel
      by_cases hkp : k < l.length
      · have h1 := HA.out k hkp
        have e := okUpto_succ l k
        have HE : Hid ((decide (0 ≤ s) && okUpto l (k + 1)) = ((decide (0 ≤ s) && okUpto l k) && decide (0 ≤ lget l k ∧ lget l k ≤ 80000))) := Lib.hid (by rw [e, Bool.and_assoc])
        clear e
        generalize hG : (decide (0 ≤ s) && okUpto l k) = G at *
        generalize hx : lget l k = x at *
        clear hG
        cases G
        · go_wp2
          go_round
          case rel => exact ⟨k + 1, by omega, by rw [HE.out]; simp, by go_num⟩
          case measure => simp [intOf]; omega
        · by_cases hx1 : 0 ≤ x
          · rcases hd : decide (x ≤ 80000)
            all_goals
              have hx2 := hd
              simp only [decide_eq_true_eq, decide_eq_false_iff_not] at hx2
              go_wp2
              go_round
              case rel => exact ⟨k + 1, by omega, by rw [HE.out]; simp [hx1, hx2], by go_num⟩
              case measure => simp [intOf]; omega
          · go_wp2
            go_round
            case rel => exact ⟨k + 1, by omega, by rw [HE.out]; simp [hx1], by go_num⟩
            case measure => simp [intOf]; omega
      · obtain rfl : k = l.length := by omega
        have hf := HB.out
        simp only [hf]
        go_wp2_with (go_at_call 14; refine (lives_any _).mono ?_; rintro e w1 ⟨rfl, hB⟩)
        go_ret
        exact ⟨rfl, hB⟩

theorem row_some {w : World} {base : Nat} {e : TypeId} {v : Value} {n : Nat} {xs : List Value} (h : w.ownsRow base e 1 v n xs) (hn : 1 ≤ n) : ∃ g cap, v = .slice (some ⟨g, 0, none⟩) n cap ∧ base ≤ g ∧ g < w.heap.size := by
  rcases h.2 with ⟨_, h0⟩ | ⟨g, cap, _, rfl, hg, hb, _⟩
  · omega
  · exact ⟨g, cap, rfl, hg, (Array.getElem?_eq_some_iff.1 hb).1⟩

def AgainPost (w : World) (L : List Int) (n : Nat) (e : Ending) (w' : World) : Prop := e = .returned (.tuple #[.slice (some ⟨w.heap.size, 0, none⟩) n n, .int .i64 0]) ∧ IntsAt w' w.heap.size L ∧ w.heap.size < w'.heap.size ∧ Below w.heap.size w w'
theorem even_again (l : List Int) (s Q : Int) (hQ : min s 80000 = Q) (hs : 0 ≤ s) (hl : l.length ≤ 60) (hv : ∀ k, k < l.length → 0 ≤ lget l k ∧ lget l k ≤ 80000) (g cap : Nat) (w : World) (hg : g < w.heap.size) (hi : IntsAt w g (evens l Q)) :
    Calls Try.prog 19 #[.slice (some ⟨g, 0, none⟩) l.length cap, .int .i64 s] w (AgainPost w (evens l Q) l.length) := by
  have hQ0 : 0 ≤ Q := by omega
  have e := evens_len l Q
  have h := even_any (evens l Q) s (some ⟨g, 0, none⟩) cap w (by omega) hs (fun k hk => by
      rw [evens_get l Q k (by omega)]
      exact even_bd (lget l) Q hQ0 l.length k (by omega) hv) (.inr ⟨g, 0, rfl, hg, fun k hk => by
      rw [Nat.zero_add]
      exact hi k hk⟩)
  rw [hQ] at h
  have h2 : Calls Try.prog 19 #[.slice (some ⟨g, 0, none⟩) (evens l Q).length cap, .int .i64 s] w (AgainPost w (evens l Q) l.length) := h.mono (by
    rintro e2 w' ⟨rfl, hr, hB⟩
    refine ⟨by rw [e], ints_at_row hr ?_, hr.lt, hB⟩
    rw [← evens_vals, evens_twice l Q hQ0])
  rwa [e] at h2
theorem same_n (L : List Int) (n a b cb : Nat) (w : World) (hn : L.length = n) (hl : n ≤ 1000000) (ha : IntsAt w a L) (hb : IntsAt w b L) :
    Calls Try.prog 18 #[.slice (some ⟨a, 0, none⟩) n n, .slice (some ⟨b, 0, none⟩) n cb] w fun e w' => e = .returned (.bool true) ∧ ∃ n, w' = w.drewN n := by
  subst hn
  exact same_yes L a b cb w hl ha hb

set_option maxRecDepth 20000 in
set_option maxHeartbeats 2000000 in
theorem gaugesEven_some (l : List Int) (s : Int) (b off cap : Nat) (w : World) (hl : l.length ≤ 60) (h1 : 1 ≤ l.length) (hs : 0 ≤ s ∧ s ≤ 9223372036854775807) (hv : ∀ k, k < l.length → 0 ≤ lget l k ∧ lget l k ≤ 80000) (hb : b < w.heap.size) (hcell : ∀ k, k < l.length → w.cell? ⟨b, off + k, none⟩ = some (.int .i64 (lget l k))) :
    Calls Try.prog 8 #[.slice (some ⟨b, off, none⟩) l.length cap, .int .i64 s] w (LivesPost w) := by
  have HC := Lib.hid (even_any l s (some ⟨b, off, none⟩) cap w (by omega) hs.1 hv (.inr ⟨b, off, rfl, hb, hcell⟩))
  have HV := Lib.hid hv
  have HA := Lib.hid hcell
  clear hv hcell
  obtain ⟨s1, s2⟩ := hs
  obtain ⟨i0, hi, hz0, hz1, hz2⟩ := info_parts even_info
  go_enter Try.func8, Try.ntmps8
  go_wp2_with fail
  refine (HC.out).mono ?_; rintro e w1 ⟨rfl, hr, hB⟩
  have HR := Lib.hid hr
  have HA1 : Hid (∀ k, k < l.length → w1.cell? ⟨b, off + k, none⟩ = some (.int .i64 (lget l k))) := Lib.hid fun k hk => (hB.cell (p := ⟨b, off + k, none⟩) hb).trans (HA.out k hk)
  clear hr HC
  go_wp2_with fail
  go_loop [7, 8] (fun g i => ∃ k : Nat, k ≤ l.length ∧ g = .bool true ∧ i = .int .i64 k) (fun _ i => l.length - (intOf i).toNat)
  case atStart => exact ⟨0, by omega, by simp, rfl⟩
  case round =>
    obtain ⟨k, hk, rfl, rfl⟩ := hrel
    by_cases hkp : k < l.length
    · have h1 := HA1.out k hkp
      obtain ⟨h2, h3⟩ := HV.out k hkp
      go_wp2
      go_round
      case rel => exact ⟨k + 1, by omega, by first | rfl | simp; omega, by go_num⟩
      case measure => simp [intOf]; omega
    · obtain rfl : k = l.length := by omega
      go_wp2_with fail
      · have hq : min s 80000 = 80000 := by omega
        have HR2 := Lib.hid (hq ▸ HR.out)
        clear HR
        have hw1 := hB.size
        go_loopw [10, 11] (fun o i wr => ∃ j : Nat, j ≤ l.length ∧ i = .int .i64 j ∧ wr.ownsRow w1.heap.size 3 1 o j (ints j (evenAt (lget l) 80000 l.length)) ∧ Below w1.heap.size w1 wr) (fun _ i _ => l.length - (intOf i).toNat)
        case atStart => exact ⟨0, by omega, rfl, ⟨rfl, .inl ⟨rfl, rfl⟩⟩, Below.refl _ _⟩
        case round =>
          obtain ⟨j, hj, rfl, ho, hB1⟩ := hrel
          have HO := Lib.hid ho
          clear ho
          by_cases hjp : j < l.length
          · have HA2 : Hid (∀ k, k < l.length → wr.cell? ⟨b, off + k, none⟩ = some (.int .i64 (lget l k))) := Lib.hid fun k hk => (hB1.cell (p := ⟨b, off + k, none⟩) (Nat.lt_of_lt_of_le hb hw1)).trans (HA1.out k hk)
            have g1 := HA2.out j hjp
            obtain ⟨g2, g3⟩ := HV.out j hjp
            go_wp2_with fail
            go_loop [12, 13] (fun n i => ∃ m : Nat, m ≤ l.length ∧ n = .int .i64 (least (lget l) 80000 j m) ∧ i = .int .i64 m) (fun _ i => l.length - (intOf i).toNat)
            case atStart => exact ⟨0, by omega, rfl, rfl⟩
            case round =>
              obtain ⟨m, hm, rfl, rfl⟩ := hrel
              by_cases hmp : m < l.length
              · have g4 := HA2.out m hmp
                obtain ⟨g5, g6⟩ := HV.out m hmp
                obtain ⟨g7, g8⟩ := least_bd (lget l) 80000 (by omega) l.length j hjp HV.out m (by omega)
                have HE : Hid (least (lget l) 80000 j (m + 1) = min (least (lget l) 80000 j m) (lget l m + dist j m * 80000)) := Lib.hid rfl
                clear g1 g2 g3
                generalize lget l m = x at *
                generalize least (lget l) 80000 j m = y at *
                by_cases hd : (j : Int) - m < 0
                · have e : dist j m = -((j : Int) - m) := by simp [dist, hd]
                  rw [e] at HE
                  obtain ⟨m1, m2⟩ := mul_bd (-((j : Int) - m)) 80000 60 80000 (by omega) (by omega) (by omega) (by omega)
                  clear e
                  go_wp2
                  all_goals
                    go_round
                    case rel => exact ⟨m + 1, by omega, by rw [HE.out]; congr 1; omega, by go_num⟩
                    case measure => simp [intOf]; omega
                · have e : dist j m = (j : Int) - m := by simp [dist, hd]
                  rw [e] at HE
                  obtain ⟨m1, m2⟩ := mul_bd ((j : Int) - m) 80000 60 80000 (by omega) (by omega) (by omega) (by omega)
                  clear e
                  go_wp2
                  all_goals
                    go_round
                    case rel => exact ⟨m + 1, by omega, by rw [HE.out]; congr 1; omega, by go_num⟩
                    case measure => simp [intOf]; omega
              · obtain rfl : m = l.length := by omega
                have hq2 := least_even (lget l) 80000 (by omega) l.length j hjp
                have hsz := hB1.size
                simp only [hq2]
                go_wp2_with (at_builtin; refine wpList_append_own_at _ rfl _ _ 31 rfl w1.heap.size 3 i0 (.int .i64 0) 1 8 Try.underlying31 hi hz0 hz1 hz2 rfl (by decide) _ _ _ rfl (HO.out.alloc _) ⟨wr.heap.size, 0, none⟩ 1 1 [.int .i64 (evenAt (lget l) 80000 l.length j)] rfl rfl (cell_one_new _ _ _) (ints_oneCell .i64 [_]) (by unfold maxLen; omega) (by omega) (by simp; omega) ?_; intro v' w3 hown' hgrow hnil hloc)
                go_roundw
                case rel => exact ⟨j + 1, by omega, by go_num, by rw [ints_snoc]; exact hown', (hB1.alloc hsz _).grown hgrow (by simp; omega) (fun q hq3 => (HO.out.lt q hq3).1)⟩
                case measure => simp [intOf]; omega
          · obtain rfl : j = l.length := by omega
            have hsz := hB1.size
            obtain ⟨g2, c2, hu, hg2, hg3⟩ := row_some HO.out h1
            subst hu
            have HW2 : Hid (IntsAt wr g2 (evens l 80000)) := Lib.hid (ints_at HO.out (evens_vals l 80000).symm)
            have HG2 : Hid (IntsAt wr w.heap.size (evens l 80000)) := Lib.hid ((ints_at_row HR2.out (evens_vals l 80000).symm).below hB1 HR2.out.lt)
            have hlt := HR2.out.lt
            clear HO HR2 HA HA1
            have eL := evens_len l 80000
            have EA := Lib.hid (even_again l s 80000 hq s1 hl HV.out w.heap.size l.length wr (by omega) HG2.out)
            go_wp2_with fail
            refine (EA.out).mono ?_; rintro e w2 ⟨rfl, hi2, hlt2, hB2⟩
            have HI2 := Lib.hid hi2
            have HG3 := Lib.hid (HG2.out.below hB2 (by omega))
            have HW3 := Lib.hid (HW2.out.below hB2 hg3)
            have hBw : Below w.heap.size w w2 := (hB.trans (hB1.mono hw1)).trans (hB2.mono (by omega))
            clear hi2 HG2 HW2 EA
            go_wp2_with fail
            refine (same_n (evens l 80000) l.length _ _ _ _ eL (by omega) HG3.out HW3.out).mono ?_; rintro e w3 ⟨rfl, n1, rfl⟩
            go_wp2_with fail
            refine (same_n (evens l 80000) l.length _ _ _ (w2.drewN n1) eL (by omega) HI2.out HW3.out).mono ?_; rintro e w3 ⟨rfl, n2, rfl⟩
            go_wp2_with fail
            refine (lives_any _).mono ?_; rintro e w4 ⟨rfl, hB4⟩
            go_wp2
            go_ret
            exact ⟨rfl, (below_drewN hBw (n1 + n2)).trans (hB4.mono hBw.size)⟩
      · have hq : min s 80000 = s := by omega
        have HR2 := Lib.hid (hq ▸ HR.out)
        clear HR
        have hw1 := hB.size
        go_loopw [10, 11] (fun o i wr => ∃ j : Nat, j ≤ l.length ∧ i = .int .i64 j ∧ wr.ownsRow w1.heap.size 3 1 o j (ints j (evenAt (lget l) s l.length)) ∧ Below w1.heap.size w1 wr) (fun _ i _ => l.length - (intOf i).toNat)
        case atStart => exact ⟨0, by omega, rfl, ⟨rfl, .inl ⟨rfl, rfl⟩⟩, Below.refl _ _⟩
        case round =>
          obtain ⟨j, hj, rfl, ho, hB1⟩ := hrel
          have HO := Lib.hid ho
          clear ho
          by_cases hjp : j < l.length
          · have HA2 : Hid (∀ k, k < l.length → wr.cell? ⟨b, off + k, none⟩ = some (.int .i64 (lget l k))) := Lib.hid fun k hk => (hB1.cell (p := ⟨b, off + k, none⟩) (Nat.lt_of_lt_of_le hb hw1)).trans (HA1.out k hk)
            have g1 := HA2.out j hjp
            obtain ⟨g2, g3⟩ := HV.out j hjp
            go_wp2_with fail
            go_loop [12, 13] (fun n i => ∃ m : Nat, m ≤ l.length ∧ n = .int .i64 (least (lget l) s j m) ∧ i = .int .i64 m) (fun _ i => l.length - (intOf i).toNat)
            case atStart => exact ⟨0, by omega, rfl, rfl⟩
            case round =>
              obtain ⟨m, hm, rfl, rfl⟩ := hrel
              by_cases hmp : m < l.length
              · have g4 := HA2.out m hmp
                obtain ⟨g5, g6⟩ := HV.out m hmp
                obtain ⟨g7, g8⟩ := least_bd (lget l) s (by omega) l.length j hjp HV.out m (by omega)
                have HE : Hid (least (lget l) s j (m + 1) = min (least (lget l) s j m) (lget l m + dist j m * s)) := Lib.hid rfl
                clear g1 g2 g3
                generalize lget l m = x at *
                generalize least (lget l) s j m = y at *
                by_cases hd : (j : Int) - m < 0
                · have e : dist j m = -((j : Int) - m) := by simp [dist, hd]
                  rw [e] at HE
                  obtain ⟨m1, m2⟩ := mul_bd (-((j : Int) - m)) s 60 80000 (by omega) (by omega) (by omega) (by omega)
                  clear e
                  go_wp2
                  all_goals
                    go_round
                    case rel => exact ⟨m + 1, by omega, by rw [HE.out]; congr 1; omega, by go_num⟩
                    case measure => simp [intOf]; omega
                · have e : dist j m = (j : Int) - m := by simp [dist, hd]
                  rw [e] at HE
                  obtain ⟨m1, m2⟩ := mul_bd ((j : Int) - m) s 60 80000 (by omega) (by omega) (by omega) (by omega)
                  clear e
                  go_wp2
                  all_goals
                    go_round
                    case rel => exact ⟨m + 1, by omega, by rw [HE.out]; congr 1; omega, by go_num⟩
                    case measure => simp [intOf]; omega
              · obtain rfl : m = l.length := by omega
                have hq2 := least_even (lget l) s (by omega) l.length j hjp
                have hsz := hB1.size
                simp only [hq2]
                go_wp2_with (at_builtin; refine wpList_append_own_at _ rfl _ _ 31 rfl w1.heap.size 3 i0 (.int .i64 0) 1 8 Try.underlying31 hi hz0 hz1 hz2 rfl (by decide) _ _ _ rfl (HO.out.alloc _) ⟨wr.heap.size, 0, none⟩ 1 1 [.int .i64 (evenAt (lget l) s l.length j)] rfl rfl (cell_one_new _ _ _) (ints_oneCell .i64 [_]) (by unfold maxLen; omega) (by omega) (by simp; omega) ?_; intro v' w3 hown' hgrow hnil hloc)
                go_roundw
                case rel => exact ⟨j + 1, by omega, by go_num, by rw [ints_snoc]; exact hown', (hB1.alloc hsz _).grown hgrow (by simp; omega) (fun q hq3 => (HO.out.lt q hq3).1)⟩
                case measure => simp [intOf]; omega
          · obtain rfl : j = l.length := by omega
            have hsz := hB1.size
            obtain ⟨g2, c2, hu, hg2, hg3⟩ := row_some HO.out h1
            subst hu
            have HW2 : Hid (IntsAt wr g2 (evens l s)) := Lib.hid (ints_at HO.out (evens_vals l s).symm)
            have HG2 : Hid (IntsAt wr w.heap.size (evens l s)) := Lib.hid ((ints_at_row HR2.out (evens_vals l s).symm).below hB1 HR2.out.lt)
            have hlt := HR2.out.lt
            clear HO HR2 HA HA1
            have eL := evens_len l s
            have EA := Lib.hid (even_again l s s hq s1 hl HV.out w.heap.size l.length wr (by omega) HG2.out)
            go_wp2_with fail
            refine (EA.out).mono ?_; rintro e w2 ⟨rfl, hi2, hlt2, hB2⟩
            have HI2 := Lib.hid hi2
            have HG3 := Lib.hid (HG2.out.below hB2 (by omega))
            have HW3 := Lib.hid (HW2.out.below hB2 hg3)
            have hBw : Below w.heap.size w w2 := (hB.trans (hB1.mono hw1)).trans (hB2.mono (by omega))
            clear hi2 HG2 HW2 EA
            go_wp2_with fail
            refine (same_n (evens l s) l.length _ _ _ _ eL (by omega) HG3.out HW3.out).mono ?_; rintro e w3 ⟨rfl, n1, rfl⟩
            go_wp2_with fail
            refine (same_n (evens l s) l.length _ _ _ (w2.drewN n1) eL (by omega) HI2.out HW3.out).mono ?_; rintro e w3 ⟨rfl, n2, rfl⟩
            go_wp2_with fail
            refine (lives_any _).mono ?_; rintro e w4 ⟨rfl, hB4⟩
            go_wp2
            go_ret
            exact ⟨rfl, (below_drewN hBw (n1 + n2)).trans (hB4.mono hBw.size)⟩

set_option maxHeartbeats 400000 in
theorem same_nil (a : Addr) (w : World) :
    Calls Try.prog 18 #[.slice (some a) 0 0, .slice none 0 0] w fun e w' => e = .returned (.bool true) ∧ w = w' := by
  go_enter Try.func18, Try.ntmps18
  go_wp2
  go_rounds 1
  all_goals
    go_ret
    exact ⟨rfl, rfl⟩

def NilPost (w : World) (e : Ending) (w' : World) : Prop := e = .returned (.tuple #[.slice (some ⟨w.heap.size, 0, none⟩) 0 0, .int .i64 0]) ∧ Below w.heap.size w w'
theorem even_none (s : Int) (ao : Option Addr) (cap : Nat) (w : World) (hs : 0 ≤ s) : Calls Try.prog 19 #[.slice ao 0 cap, .int .i64 s] w (NilPost w) :=
  (even_nil s ao cap w hs).mono fun _ _ ⟨h1, _, h3⟩ => ⟨h1, h3⟩

set_option maxRecDepth 20000 in
set_option maxHeartbeats 2000000 in
theorem gaugesEven_none (s : Int) (ao : Option Addr) (cap : Nat) (w : World) (hs : 0 ≤ s ∧ s ≤ 9223372036854775807) :
    Calls Try.prog 8 #[.slice ao 0 cap, .int .i64 s] w (LivesPost w) := by
  obtain ⟨s1, s2⟩ := hs
  go_enter Try.func8, Try.ntmps8
  go_wp2_with fail
  refine (even_none s ao cap w s1).mono ?_; rintro e w1 ⟨rfl, hB⟩
  go_wp2_with fail
  go_rounds 1
  go_wp2_with fail
  all_goals
    refine wp_loop_rounds 1 ?_
    rw [rounds_succ]
    go_wp2_with fail
    refine (even_none s _ _ w1 s1).mono ?_; rintro e w2 ⟨rfl, hB2⟩
    go_wp2_with fail
    refine (same_nil _ _).mono ?_; rintro e w3 ⟨rfl, rfl⟩
    go_wp2_with fail
    refine (same_nil _ _).mono ?_; rintro e w3 ⟨rfl, rfl⟩
    go_wp2_with fail
    refine (lives_any _).mono ?_; rintro e w4 ⟨rfl, hB4⟩
    go_wp2
    go_ret
    exact ⟨rfl, (hB.trans (hB2.mono hB.size)).trans (hB4.mono (Nat.le_trans hB.size hB2.size))⟩

theorem gaugesEven_walk (l : List Int) (s : Int) (ao : Option Addr) (cap : Nat) (w : World) (hl : l.length ≤ maxLen) (hs : -9223372036854775808 ≤ s ∧ s ≤ 9223372036854775807) (hw : ∀ k, -9223372036854775808 ≤ lget l k ∧ lget l k ≤ 9223372036854775807) (ha : SliceOf w ao l) :
    Calls Try.prog 8 #[.slice ao l.length cap, .int .i64 s] w (LivesPost w) := by
  by_cases h : 60 < l.length
  · exact gaugesEven_long l s ao cap w hl h
  · by_cases h0 : s < 0
    · exact gaugesEven_bad l s ao cap w (by omega) hs hw ha (by simp; omega) (even_step s l.length cap ao w h0)
    · rcases ha with rfl | ⟨b, off, rfl, hb, hcell⟩
      · exact gaugesEven_none s ao cap w ⟨by omega, hs.2⟩
      · rcases hk : okUpto l l.length
        · refine gaugesEven_bad l s _ cap w (by omega) hs hw (.inr ⟨b, off, rfl, hb, hcell⟩) (by rw [hk]; simp) (even_bad l s b off cap w (by omega) (by omega) hcell fun hv => ?_)
          rw [(okUpto_all l l.length).2 hv] at hk
          exact Bool.noConfusion hk
        · by_cases h1 : 1 ≤ l.length
          · exact gaugesEven_some l s b off cap w (by omega) h1 ⟨by omega, hs.2⟩ ((okUpto_all l l.length).1 hk) hb hcell
          · obtain rfl : l = [] := List.length_eq_zero_iff.1 (by omega)
            exact gaugesEven_none s _ cap w ⟨by omega, hs.2⟩

namespace lawGaugesEven
theorem own : ownKnob Try.prog.godebug = none := by kernel_rfl
theorem laidOut : laidOutB Try.prog = true := by kernel_rfl

set_option maxRecDepth 100000 in
theorem lifted (os : Os) (started : os.Started) (H : Type) (enc : TypeId × Value → H) :
    ReturnsInHanded {} Try.checked os 8 .any (Rows.gaugesEvenSpec.pre6 enc Try.prog Try.f8 Rows.gaugesEvenRow.domain false) (Rows.gaugesEvenSpec.post enc Try.prog Try.f8 false true false false) := by
  refine returnsInHanded_of_change (C := Try.checked) own started (by kernel_rfl) Try.func8
    (ChangeSpec.witness6 (enc := enc) (C := Try.checked) false ⟨#[], #[.slice none 0 0, .int .i64 0], []⟩ 8 (by kernel_rfl) (by kernel_rfl) (by kernel_rfl) (by kernel_rfl)) ?_
  intro W base args ds gs before hval0 hW hcnd _
  have hval : ∀ (j : Nat) t v, Try.f8.params[j]? = some t → args[j]? = some v → Value.okWide Try.prog W .any base t v := hval0
  have hW' := hW
  obtain ⟨p, q, hA0, hV, rfl, hfz, hnd⟩ := hW
  have hA : DataW.TrodAll enc Try.prog W 0 (fun _ => true) true Try.f8.params.toList args.toList ds p := hA0
  rw [Try.params8] at hA hval
  obtain ⟨v0, vs0, d0, ds0, p0, q0, hargs, rfl, rfl, h0, r0⟩ := trodAll_cons hA
  obtain ⟨v1, vs1, d1, ds1, p1, q1, rfl, rfl, rfl, h1, r1⟩ := trodAll_cons r0
  obtain ⟨rfl, rfl, rfl⟩ := trodAll_nil r1
  obtain rfl : args = #[v0, v1] := by cases args; simp_all
  obtain ⟨rfl, rfl⟩ := trodVars_none hV
  have k0 := h0
  have lt0 : ∀ x ∈ p0, x.block < W.heap.size := by obtain ⟨m, hm⟩ := k0; exact DataW.trod_lt m _ _ _ hm
  have k1 := h1
  have lt1 : ∀ x ∈ p1, x.block < W.heap.size := by obtain ⟨m, hm⟩ := k1; exact DataW.trod_lt m _ _ _ hm
  obtain ⟨a1, rfl, rfl, rfl, w1⟩ := open_int Try.underlying3 (hval 1 3 v1 rfl rfl) h1
  obtain ⟨a0, len0, cap0, rfl⟩ := okWide_slice Try.underlying31 (hval 0 31 v0 rfl rfl)
  obtain ⟨l, rfl, hl, hw, ha⟩ : ∃ l : List Int, len0 = l.length ∧ l.length ≤ maxLen ∧ (∀ k, -9223372036854775808 ≤ lget l k ∧ lget l k ≤ 9223372036854775807) ∧ SliceOf W a0 l := by
    obtain ⟨fuel, hf⟩ := h0
    rcases open_ints Try.underlying31 Try.underlying3 (by kernel_rfl) hf with ⟨hcs, _⟩ | ⟨x, n, c, zs, hcs, _, hl, hm, hz, _, hcell, hwz⟩
    · simp [Value.cells] at hcs
      obtain ⟨rfl, rfl, rfl⟩ := hcs
      exact ⟨[], rfl, by simp, by simp [lget], .inl rfl⟩
    · simp [Value.cells] at hcs
      obtain ⟨rfl, rfl, rfl⟩ := hcs
      exact slice_in hl hm (by simpa using hz) hcell hwz
  clear hA0 hval0
  refine (gaugesEven_walk l a1 a0 cap0 W hl (by simpa [Lit.wf, IntKind.min, IntKind.max, IntKind.signed, IntKind.bits] using w1) hw ha).mono fun e W' ⟨he, bel⟩ => ?_
  subst he
  exact ⟨_, rfl, _, _, _, [], _, [], hW', trodAll_mk1 (shut_bool Try.underlying4 _), (trodAll_cons_mk (Below.trod laidOut (by kernel_rfl) (of_decide_eq_true (by kernel_rfl)) k0 bel lt0) (trodAll_cons_mk (Below.trod laidOut (by kernel_rfl) (of_decide_eq_true (by kernel_rfl)) k1 bel lt1) trodAll_mk0)), rfl, bel.frame _, fun h => by cases h⟩

theorem over : Rows.gaugesEvenRow.holds Try.pinned (OpenSpec.ofChange Rows.gaugesEvenSpec) :=
  OpenClaim.holds_of_wide 8 Try.f8 rfl rfl rfl rfl rfl rfl rfl ⟨rfl, rfl, rfl, rfl, rfl⟩ rfl rfl rfl rfl rfl (by kernel_rfl) Try.func8 (by kernel_rfl)
    (of_decide_eq_true (by kernel_rfl)) (by unfold Func.isWrapper; first | (rw [if_pos (by decide +kernel)]; kernel_rfl) | (rw [if_neg (by decide +kernel)]; exact ⟨rfl, rfl⟩))
    (fun os started H enc _ => lifted os started H enc)

theorem proved : Rows.GaugesEvenSaid := over
end lawGaugesEven
end Go.Proofs.Ytknkpmckgaloaaa

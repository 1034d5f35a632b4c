/-
  Contracts: charts.loads, charts.Widths.
-/
import Derived.Test.YtblcphibkcjmdaaPc
import Derived.Test.YtblcphibkcjmdaaFloat
namespace Go.Proofs.Ytblcphibkcjmdaa
open Go.RowKit

theorem row_full {w : World} {base e n g : Nat} {xs : List Value} (h : w.ownsRow base e 1 (.slice (some ⟨g, 0, none⟩) n n) n xs) : Row w g e xs := by
  rcases h.2 with ⟨hh, _⟩ | ⟨g', cap, cur, hh, _, hb, _, _, hs, ht⟩
  · cases hh
  · have e1 : g = g' ∧ n = cap := by simpa using hh
    obtain ⟨rfl, rfl⟩ := e1
    rw [List.take_of_length_le (by simp; omega)] at ht
    unfold Row
    rw [hb, ← ht]

theorem st_below (k y : Int) (w w' : World) (t : TypeId) (h : Below (w.alloc (.cells #[.int .u8 k, .int .u8 y, .int .i64 0, .int .i64 0, .bool false] t)).heap.size (w.alloc (.cells #[.int .u8 k, .int .u8 y, .int .i64 0, .int .i64 0, .bool false] t)) w') :
    w'.cell? ⟨w.heap.size, 0, none⟩ = some (.int .u8 k) ∧ w'.cell? ⟨w.heap.size, 1, none⟩ = some (.int .u8 y) ∧ w'.cell? ⟨w.heap.size, 2, none⟩ = some (.int .i64 0) ∧ w'.cell? ⟨w.heap.size, 3, none⟩ = some (.int .i64 0) ∧ w'.cell? ⟨w.heap.size, 4, none⟩ = some (.bool false) := by
  have hl : w.heap.size < (w.alloc (.cells #[.int .u8 k, .int .u8 y, .int .i64 0, .int .i64 0, .bool false] t)).heap.size := by simp
  exact ⟨(h.cell (p := ⟨w.heap.size, 0, none⟩) hl).trans (by simp [go_sem]), (h.cell (p := ⟨w.heap.size, 1, none⟩) hl).trans (by simp [go_sem]), (h.cell (p := ⟨w.heap.size, 2, none⟩) hl).trans (by simp [go_sem]), (h.cell (p := ⟨w.heap.size, 3, none⟩) hl).trans (by simp [go_sem]), (h.cell (p := ⟨w.heap.size, 4, none⟩) hl).trans (by simp [go_sem])⟩

theorem one_at {w : World} {g : Nat} {x : Value} (h : w.cell? ⟨g, 0, none⟩ = some x) : ∀ j u, [x][j]? = some u → w.cell? ((⟨g, 0, none⟩ : Addr).add j) = some u := by
  intro j u hj
  match j, hj with
  | 0, hj =>
    simp at hj
    subst hj
    rw [add_zero_addr]
    exact h

theorem slice_eq {a : Option Addr} {n n' c c' : Nat} (h : n = n') (h2 : c = c') : Value.slice a n c = .slice a n' c' := by rw [h, h2]

def LoadsPost (w : World) (n : Nat) (e : Ending) (w' : World) : Prop := ∃ g, e = .returned (.tuple #[.slice (some ⟨g, 0, none⟩) n n, .int .i64 0]) ∧ Row w' g 3 (ints n fun _ => 1) ∧ w.heap.size ≤ g ∧ Below w.heap.size w w'
theorem noWay_loads {P : Program} {fn : Func} {w : World} {n : Nat} : NoWay (bodyPost P fn (LoadsPost w n)) :=
  noWay_body (fun _ _ h => by obtain ⟨_, h, _⟩ := h; cases h) (fun _ h => by obtain ⟨_, h, _⟩ := h; cases h)

set_option maxRecDepth 20000 in
set_option maxHeartbeats 4000000 in
theorem loads_simple (n rcap cap b0 off0 b off : Nat) (K Y : Nat → Int) (w : World) (h1 : 1 ≤ n) (hn : n ≤ 1000) (hcap : n ≤ cap) (hb0 : b0 < w.heap.size) (hr : RowAt w b0 off0 n K Y) (hs : SimpleRow n K Y) (hb : b < w.heap.size) (hc : ∀ i, i < n → w.cell? ⟨b, off + i, none⟩ = some (.int .i64 1)) :
    Calls Try.prog 34 #[.slice (some ⟨b0, off0, none⟩) n rcap, .slice (some ⟨b, off, none⟩) n cap] w (LoadsPost w n) := by
  have HM := Lib.hid (makes_row n rcap K Y (some ⟨b0, off0, none⟩) w (by omega) (.inr ⟨b0, off0, rfl, hb0, hr⟩) hs)
  have HR := Lib.hid hr
  have HS := Lib.hid hs
  have HC := Lib.hid hc
  clear hr hs hc
  obtain ⟨i0, hi, hz0, hz1, hz2⟩ := info_parts int_info
  go_enter Try.func34, Try.ntmps34
  go_wp2_with fail
  refine (HM.out).mono ?_; rintro e w1 ⟨rfl, hB1⟩
  have hz := hB1.size
  go_wp2_with (at_make; refine wpList_make_own _ rfl _ _ 70 rfl w.heap.size 3 i0 (.int .i64 0) 1 Try.underlying70 hi hz0 hz1 _ _ _ n rfl rfl rfl (by rw [hz2]; omega) (by unfold maxLen; omega) hz ?_; intro w2 hown hgrow)
  have hB2 : Below w.heap.size w w2 := Below.grown hB1 hgrow hz (by intro k hk; cases hk)
  clear hgrow HM
  go_loopw [6, 1, 17] (fun o bf i wr => ∃ k : Nat, k ≤ n ∧ i = .int .i64 k ∧ (∃ g, o = .slice (some ⟨g, 0, none⟩) k n ∧ wr.ownsRow w.heap.size 3 1 (.slice (some ⟨g, 0, none⟩) k n) k (ints k fun _ => 1)) ∧ Below w.heap.size w wr ∧ ∃ p, bf = .slice (some ⟨b, p, none⟩) (n - k) (cap - k) ∧ (k < cap → p = off + k)) (fun _ _ i _ => n - (intOf i).toNat)
  case atStart => exact ⟨0, Nat.zero_le _, rfl, ⟨_, rfl, by simpa [ints] using hown⟩, hB2, off, rfl, fun _ => rfl⟩
  case round =>
    obtain ⟨k, hk, rfl, ⟨g, rfl, hrow⟩, hB, p, rfl, hp⟩ := hrel
    have HO := Lib.hid hrow
    clear hrow
    by_cases hkn : k < n
    · obtain rfl := hp (by omega)
      clear hp
      obtain ⟨d1, d2, d3, d4, d5⟩ := (HR.out.below hB hb0) k hkn
      have c1 := (hB.cell (p := ⟨b, off + k, none⟩) hb).trans (HC.out k hkn)
      go_wp2_with fail
      refine (needs_simple _ _ _ (HS.out k hkn)).mono ?_; rintro e w3 ⟨rfl, hB3⟩
      have hz0 := hB.size
      have hC3 : Below w.heap.size w w3 := (hB.alloc hB.size _).trans (hB3.mono (by simp; omega))
      have hz3 : wr.heap.size < w3.heap.size := by have := hB3.size; simp at this; omega
      have hO3 : w3.ownsRow w.heap.size 3 1 (.slice (some ⟨g, 0, none⟩) k n) k (ints k fun _ => 1) := (HO.out.alloc _).kept (row := none) ⟨hB3.os, hB3.tape, hB3.output, hB3.size, fun j hj _ => hB3.block j hj⟩ (by simp [Value.ownBlock])
      have HO3 := Lib.hid hO3
      obtain ⟨f1, f2, f3, f4, f5⟩ := st_below _ _ _ _ _ hB3
      have c3 := (hC3.cell (p := ⟨b, off + k, none⟩) hb).trans (HC.out k hkn)
      have hb3 : b < w3.heap.size := Nat.lt_of_lt_of_le hb hC3.size
      clear hO3 hB3 d1 d2 d3 d4 d5 c1
      go_wp2_with fail
      refine wp_region_pieces [(true, [0, 1, 2, 3]), (false, [4]), (true, [5, 6, 7, 8, 9])] (by kernel_rfl) (by kernel_rfl) (by kernel_rfl) (noWay_loads (P := Try.prog) (fn := Try.f34) (w := w) (n := n)) ?_
      simp only [wpPieces, picks, List.drop_succ_cons, List.drop_zero, List.take_succ_cons, List.take_zero, List.cons_append, List.nil_append]
      go_wp2
      refine ⟨trivial, ?_⟩
      go_wp2_with fail
      refine (stLoads_simple _ _ b (off + k) _ w3.drew (HS.out k hkn) hb3 c3).mono ?_; rintro e w4 ⟨g4, rfl, hg4, c4, hB4⟩
      have hC4 := (Below.drew hC3).trans (hB4.mono hC3.size)
      have HO4 := Lib.hid (HO3.out.kept (row := none) ⟨hB4.os, hB4.tape, hB4.output, hB4.size, fun j hj _ => hB4.block j hj⟩ (by simp [Value.ownBlock]))
      clear HO HO3 hB4 f1 f2 f3 f4 f5 c3
      go_wp2
      refine ⟨trivial, ?_⟩
      by_cases hlast : cap - k = 1
      all_goals
        go_wp2
        refine wp_region_floats [(1, [3, 4, 5]), (0, [0, 1]), (2, [2]), (0, [6, 7])] (fun _ => True) (by kernel_rfl) (by kernel_rfl) (by kernel_rfl) (noWay_loads (P := Try.prog) (fn := Try.f34) (w := w) (n := n)) trivial ?_
        simp only [wpZ, wpFloats, wpOthers, picks, List.drop_succ_cons, List.drop_zero, List.take_succ_cons, List.take_zero, List.cons_append, List.nil_append]
        iterate 3
          apply Exists.intro
          refine ⟨fun w' _ => ?_, ?_⟩
          · go_wp2
            exact ⟨trivial, rfl⟩
        go_wp2
        refine ⟨trivial, ?_⟩
        go_wp2_with (at_builtin; refine wpList_append_fits _ rfl _ _ 70 rfl w.heap.size 3 i0 1 Try.underlying70 hi hz1 g k n _ rfl HO4.out ⟨g4, 0, none⟩ 1 1 [.int .i64 1] rfl rfl (one_at c4) (by simp [Value.oneCell']) (by omega) ?_; intro w5 hown5 hgrow5)
        refine ⟨trivial, ?_⟩
        have hz4 := hC4.size
        have hC5 : Below w.heap.size w w5 := Below.grown (Below.drew hC4) hgrow5 (by simp; omega) (fun j hj => by cases hj; exact (HO4.out.lt g rfl).1)
        rw [← ints_snoc k (fun _ => 1)] at hown5
        have HO5 := Lib.hid hown5
        clear hown5 hgrow5 HO4
        go_wp2
        refine ⟨trivial, ?_⟩
        go_wp2
        go_roundw
        case rel => exact ⟨k + 1, by omega, by go_num, ⟨g, rfl, HO5.out⟩, hC5, _, slice_eq (by omega) (by omega), fun h => (by omega)⟩
        case measure => simp [intOf]; omega
    · obtain rfl : k = n := by omega
      have HR2 := Lib.hid (row_full HO.out)
      have hlt := (HO.out.lt g rfl).1
      clear HO hp
      go_wp2
      go_ret2
      exact ⟨g, rfl, HR2.out, hlt, hB⟩

end Go.Proofs.Ytblcphibkcjmdaa

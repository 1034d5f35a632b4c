/-
  The contract of ganseylaw37.outline: the points of the outline that is told by plain data.
-/
import Derived.Test.YtknkpmckgaloaaaOpen
import Derived.Test.YtknkpmckgaloaaaPerm
import Derived.Maps.AppendAt
namespace Go.Proofs.Ytknkpmckgaloaaa
open Go.RowKit

/-- The cells of n points. -/
def pts (n : Nat) (h v : Nat → Int) : List Value := (List.range n).flatMap fun i => [.int .i64 (h i), .int .i64 (v i)]
theorem pts_succ (n : Nat) (h v : Nat → Int) : pts (n + 1) h v = pts n h v ++ [.int .i64 (h n), .int .i64 (v n)] := by simp [pts, List.range_succ]
theorem pts_len (n : Nat) (h v : Nat → Int) : (pts n h v).length = n * 2 := by
  induction n with
  | zero => rfl
  | succ n ih => rw [pts_succ, List.length_append, ih]; simp; omega
theorem pts_get (h v : Nat → Int) (i : Nat) : ∀ n, i < n → (pts n h v)[i * 2]? = some (.int .i64 (h i)) ∧ (pts n h v)[i * 2 + 1]? = some (.int .i64 (v i))
  | n + 1, hi => by
    rw [pts_succ]
    by_cases e : i = n
    · subst e
      rw [List.getElem?_append_right (by rw [pts_len]; omega), List.getElem?_append_right (by rw [pts_len]; omega), pts_len]
      simp
    · obtain ⟨h1, h2⟩ := pts_get h v i n (by omega)
      rw [List.getElem?_append_left (by rw [pts_len]; omega), List.getElem?_append_left (by rw [pts_len]; omega)]
      exact ⟨h1, h2⟩

theorem row_pts {w : World} {base e n g cap : Nat} {h v : Nat → Int} (ho : w.ownsRow base e 2 (.slice (some ⟨g, 0, none⟩) n cap) n (pts n h v)) : PtsAt w g 0 n h v := by
  intro k hk
  obtain ⟨h1, h2⟩ := pts_get h v k n hk
  have c1 := ho.cells rfl _ _ h1
  have c2 := ho.cells rfl _ _ h2
  rw [add_zero_addr] at c1 c2
  rw [Nat.zero_add]
  exact ⟨c1, c2⟩
theorem row_at {w : World} {base e size : Nat} {v : Value} {n : Nat} {xs : List Value} (h : w.ownsRow base e size v n xs) (hn : 1 ≤ n) : ∃ g cap, v = .slice (some ⟨g, 0, none⟩) n cap ∧ base ≤ g ∧ g < w.heap.size := by
  rcases h.2 with ⟨_, h0⟩ | ⟨g, cap, _, rfl, hg, hb, _⟩
  · omega
  · exact ⟨g, cap, rfl, hg, (Array.getElem?_eq_some_iff.1 hb).1⟩

theorem two_new (w : World) (x y : Value) (t : TypeId) : ∀ j u, [x, y][j]? = some u → (w.alloc (.cells #[x, y] t)).cell? ((⟨w.heap.size, 0, none⟩ : Addr).add j) = some u := by
  intro j u hj
  rw [add_zero_addr]
  have h := heap_alloc_new w (.cells #[x, y] t)
  match j, hj with
  | 0, hj => simp at hj; subst hj; simp [go_sem]
  | 1, hj => simp at hj; subst hj; simp [go_sem]

def oH (u : Nat → Int) : Nat → Int
  | 0 => 0
  | k + 1 => oH u k + u k
def oV (v : Nat → Int) : Nat → Int
  | 0 => 40
  | k + 1 => v k
theorem oH_bd (u : Nat → Int) : ∀ k, (∀ j, j < k → 0 ≤ u j ∧ u j ≤ 255) → 0 ≤ oH u k ∧ oH u k ≤ 255 * k
  | 0, _ => by simp [oH]
  | k + 1, hu => by
    have h1 := oH_bd u k fun j hj => hu j (by omega)
    have h2 := hu k (by omega)
    have e : oH u (k + 1) = oH u k + u k := rfl
    omega

theorem point_info : (Try.prog.info? 42).map (fun i => (i.zero, i.size, i.bytes)) = some (some (.agg #[.int .i64 0, .int .i64 0]), 2, 16) := by kernel_rfl

def OutPost (w : World) (n : Nat) (h v : Nat → Int) (e : Ending) (w' : World) : Prop := ∃ g cap, e = .returned (.slice (some ⟨g, 0, none⟩) n cap) ∧ PtsAt w' g 0 n h v ∧ w.heap.size ≤ g ∧ g < w'.heap.size ∧ Below w.heap.size w w'
theorem noWay_out {P : Program} {fn : Func} {w : World} {n : Nat} {h v : Nat → Int} : NoWay (bodyPost P fn (OutPost w n h v)) :=
  noWay_body (fun _ _ h => by obtain ⟨_, _, h, _⟩ := h; cases h) (fun _ h => by obtain ⟨_, _, h, _⟩ := h; cases h)

set_option maxRecDepth 20000 in
set_option maxHeartbeats 4000000 in
theorem outline_any (n cap : Nat) (u v : Nat → Int) (ao : Option Addr) (w : World) (hn : n ≤ maxLen) (hu : ∀ k, k < n → (0 ≤ u k ∧ u k ≤ 255) ∧ (0 ≤ v k ∧ v k ≤ 255))
    (ha : n = 0 ∨ ∃ b off, ao = some ⟨b, off, none⟩ ∧ b < w.heap.size ∧ PairsOf w .u8 b off n u v) :
    Calls Try.prog 16 #[.slice ao n cap] w (OutPost w (min n 8 + 1) (oH u) (oV v)) := by
  have HU := Lib.hid hu
  clear hu
  have hn63 : n ≤ 9223372036854775807 := by unfold maxLen at hn; omega
  obtain ⟨i0, hi, hz0, hz1, hz2⟩ := info_parts point_info
  go_enter Try.func16, Try.ntmps16
  go_wp2_with fail
  go_loopw [3, 4] (fun o i wr => ∃ k : Nat, k ≤ n ∧ k ≤ 8 ∧ i = .int .i64 k ∧ wr.ownsRow w.heap.size 42 2 o (k + 1) (pts (k + 1) (oH u) (oV v)) ∧ Below w.heap.size w wr) (fun _ i _ => 8 - (intOf i).toNat)
  case atStart => exact ⟨0, by omega, by omega, rfl, ⟨rfl, .inr ⟨w.heap.size, 1, _, rfl, Nat.le_refl _, heap_alloc_new w _, by omega, by unfold maxLen; omega, rfl, rfl⟩⟩, by go_grown⟩
  case round =>
    obtain ⟨k, hk, hk8, rfl, ho, hB⟩ := hrel
    obtain ⟨g, c, rfl, hg1, hg2⟩ := row_at ho (by omega)
    by_cases hkn : k < n ∧ k < 8
    · obtain ⟨hk1, hk2⟩ := hkn
      rcases ha with h0 | ⟨b, off, rfl, hb, hp⟩
      · omega
      obtain ⟨p1, p2⟩ := hp k hk1
      have q1 := (hB.cell (p := ⟨b, off + k * 2, none⟩) hb).trans p1
      have q2 := (hB.cell (p := ⟨b, off + k * 2 + 1, none⟩) hb).trans p2
      obtain ⟨q3, q4⟩ := row_pts ho k (by omega)
      rw [Nat.zero_add] at q3 q4
      obtain ⟨⟨u1, u2⟩, ⟨u3, u4⟩⟩ := HU.out k hk1
      obtain ⟨u5, u6⟩ := oH_bd u k fun j hj => (HU.out j (by omega)).1
      have HO := Lib.hid ho
      clear p1 p2 ho hp
      go_wp2
      refine wp_region_pieces [(true, [0, 1, 2, 3, 4, 5, 6, 7, 8, 9, 10, 11, 12, 13, 14, 15, 16, 17, 18]), (false, [19, 20, 21, 22])] (by kernel_rfl) (by kernel_rfl) (by kernel_rfl) (noWay_out (P := Try.prog) (fn := Try.f16) (w := w) (n := min n 8 + 1) (h := oH u) (v := oV v)) ?_
      simp only [wpPieces, picks, List.drop_succ_cons, List.drop_zero, List.take_succ_cons, List.take_zero, List.cons_append, List.nil_append]
      go_wp2
      refine ⟨trivial, ?_⟩
      have hsz := hB.size
      go_wp2_with (at_builtin; refine wpList_append_own_at _ rfl _ _ 38 rfl w.heap.size 42 i0 (.agg #[.int .i64 0, .int .i64 0]) 2 16 Try.underlying38 hi hz0 hz1 hz2 rfl (by decide) _ _ _ rfl (HO.out.alloc _) ⟨wr.heap.size, 0, none⟩ 1 1 [.int .i64 (oH u k + u k), .int .i64 (v k)] rfl rfl (two_new _ _ _ _) (by simp [Value.oneCell']) (by unfold maxLen; omega) (by omega) (by simp; omega) ?_; intro v' w3 hown' hgrow hnil hloc)
      go_roundw
      case rel => exact ⟨k + 1, by omega, by omega, by go_num, by rw [pts_succ]; exact hown', (Below.drew (hB.alloc hsz _)).grown hgrow (by simp; omega) (fun q hq3 => (HO.out.lt q hq3).1)⟩
      case measure => simp [intOf]; omega
    · have hkm : k = min n 8 := by omega
      rw [hkm] at ho
      rw [hkm]
      have hp := row_pts ho
      clear ho
      by_cases hh : min n 8 < n
      all_goals
        go_wp2
        go_ret
        exact ⟨g, c, rfl, hp, hg1, hg2, hB⟩

end Go.Proofs.Ytknkpmckgaloaaa

/-
  The end of pictures.Read: the rows turned, clipped.
-/
import Derived.Test.YtblcphibkcjmdaaPrmem
namespace Go.Proofs.Ytblcphibkcjmdaa
open Go.RowKit

theorem reverse_nil (w : World) :
    Calls Try.prog 14 #[.slice none 0 0] w (fun en w' => (∃ v, en = .returned v) ∧ w' = w) := by
  go_enter Try.func14, Try.ntmps14
  go_wp2
  go_rounds 1
  go_end0
  exact ⟨⟨_, rfl⟩, rfl⟩

theorem own_row {w : World} {base E n g cap : Nat} {xs : List Value} (h : w.ownsRow base E 1 (.slice (some ⟨g, 0, none⟩) n cap) n xs) :
    ∃ (N : Nat) (f : Nat → Value), n ≤ N ∧ n ≤ cap ∧ Row w g E (vrow N f) ∧ ∀ i x, xs[i]? = some x → f i = x := by
  rcases h.2 with ⟨h1, _⟩ | ⟨g2, cap2, cur, h1, _, h3, h4, _, h6, h7⟩
  · cases h1
  · simp only [Value.slice.injEq, Option.some.injEq, Addr.mk.injEq, and_true, true_and] at h1
    obtain ⟨rfl, rfl⟩ := h1
    refine ⟨cur.toList.length, fun i => cur.toList.getD i undef, by simp; omega, h4, ?_, ?_⟩
    · have e : vrow cur.toList.length (fun i => cur.toList.getD i undef) = cur.toList := by
        apply List.ext_getElem?
        intro j
        by_cases hj : j < cur.toList.length
        · rw [vrow_get _ hj]
          simp at hj
          simp [hj]
        · rw [List.getElem?_eq_none (by rw [vrow_len]; omega), List.getElem?_eq_none (by omega)]
      show w.heap[g]? = some (.cells (vrow cur.toList.length (fun i => cur.toList.getD i undef)).toArray E (0, 0))
      rw [e, h3]
    · intro i x hx
      rw [← h7, List.getElem?_take] at hx
      split at hx
      · have h8 : cur.toList.getD i undef = x := by rw [List.getD_eq_getElem?_getD, hx]; rfl
        exact h8
      · cases hx

def turned (n : Nat) (f : Nat → Value) (i : Nat) : Value := if i < n then f (n - 1 - i) else f i

variable {z : Nat} {ST ET CT : TypeId} {R : List (List (Int × Int))} {q : List (Int × Int)} {v u : Value} {xs : List Value} {w w' : World}

/-- The rows, turned. -/
theorem turned_rows {g : Nat} {f : Nat → Value} (h : RMem z ST ET CT R q v u xs w) (hf : ∀ i x, xs[i]? = some x → f i = x) (hne : ST ≠ ET) {N : Nat} (hg : Row w g ET (vrow N f)) (hB : But g w w') :
    ∀ i, i < R.length → ∃ ra rc, turned R.length f i = .slice ra (Lr R i) rc ∧ Lr R i ≤ rc ∧ (Lr R i = 0 ∨ ∃ b, ra = some ⟨b, 0, none⟩ ∧ b ≠ g ∧ RowB w' b ST (rowR R i)) := fun i hi => by
  have hlt : R.length - 1 - i < R.length := by omega
  have e : R[R.length - 1 - i]? = some (rowR R i) := by simp [rowR, hlt]
  obtain ⟨ra, rc, h1, h2, h3⟩ := h.done _ _ e
  refine ⟨ra, rc, by rw [turned, if_pos hi]; exact hf _ _ h1, h2, ?_⟩
  rcases h3 with h3 | ⟨b, h3, h4, _⟩
  · exact .inl (by rw [Lr, h3]; rfl)
  · have hbg : b ≠ g := by
      rintro rfl
      obtain ⟨cs, hc, _⟩ := h4
      have hg2 : w.heap[b]? = some (.cells (vrow N f).toArray ET (0, 0)) := hg
      rw [hg2] at hc
      simp at hc
      exact hne hc.2.symm
    exact .inr ⟨b, h3, hbg, h4.same (hB.2.2.2.2 b hbg)⟩

theorem chart_turned {g : Nat} {F : Nat → Value} {N : Nat} (hN : R.length ≤ N) (hg : Row w' g ET (vrow N F))
    (h : ∀ i, i < R.length → ∃ ra rc, F i = .slice ra (Lr R i) rc ∧ Lr R i ≤ rc ∧ (Lr R i = 0 ∨ ∃ b, ra = some ⟨b, 0, none⟩ ∧ b ≠ g ∧ RowB w' b ST (rowR R i))) : ChartV w' (some ⟨g, 0, none⟩) R.length (Lr R) (Kr R) (Yr R) := by
  refine .inr ⟨g, 0, rfl, hg.lt, fun i hi => ?_⟩
  obtain ⟨ra, rc, h1, h2, h3⟩ := h i hi
  have h4 := hg.cell (vrow_get F (show i < N by omega))
  refine ⟨ra, rc, h2, by rw [Nat.zero_add, h4, h1], ?_⟩
  rcases h3 with h3 | ⟨b, h3, h5, h6⟩
  · exact .inl h3
  · exact .inr ⟨b, 0, h3, h6.lt, h6.rowAt⟩

/-- What clip asks: every row has its block. -/
theorem to_clip {g : Nat} {F : Nat → Value} {N : Nat} (h : ∀ i, i < R.length → ∃ ra rc, F i = .slice ra (Lr R i) rc ∧ Lr R i ≤ rc ∧ (Lr R i = 0 ∨ ∃ b, ra = some ⟨b, 0, none⟩ ∧ b ≠ g ∧ RowB w' b ST (rowR R i))) (hL : ∀ i, i < R.length → 1 ≤ Lr R i) :
    ∃ A C : Nat → Nat, (∀ i, i < R.length → Lr R i ≤ C i ∧ A i ≠ g ∧ RowB w' (A i) ST (rowR R i)) ∧ vrow N F = vrow N (clipd R.length 0 A (Lr R) C F) := by
  have h2 : ∀ i, ∃ x : Nat × Nat, i < R.length → F i = .slice (some ⟨x.1, 0, none⟩) (Lr R i) x.2 ∧ Lr R i ≤ x.2 ∧ x.1 ≠ g ∧ RowB w' x.1 ST (rowR R i) := fun i => by
    by_cases hi : i < R.length
    · obtain ⟨ra, rc, h1, h2, h3⟩ := h i hi
      rcases h3 with h3 | ⟨b, rfl, h5, h6⟩
      · have := hL i hi
        omega
      · exact ⟨(b, rc), fun _ => ⟨h1, h2, h5, h6⟩⟩
    · exact ⟨(0, 0), fun h => absurd h hi⟩
  refine ⟨fun i => (Classical.choose (h2 i)).1, fun i => (Classical.choose (h2 i)).2, fun i hi => (Classical.choose_spec (h2 i) hi).2, vrow_congr fun i _ => ?_⟩
  unfold clipd
  rw [if_neg (by omega)]
  split
  · rename_i hi
    exact (Classical.choose_spec (h2 i) hi).1
  · rfl

theorem clipped_chart {g : Nat} {F : Nat → Value} {N : Nat} {A C : Nat → Nat} {w2 : World} (hN : R.length ≤ N) (hA : ∀ i, i < R.length → Lr R i ≤ C i ∧ A i ≠ g ∧ RowB w' (A i) ST (rowR R i))
    (hg : Row w2 g ET (vrow N (clipd R.length R.length A (Lr R) C F))) (hB : w'.grownBy w2 (some g)) : ChartV w2 (some ⟨g, 0, none⟩) R.length (Lr R) (Kr R) (Yr R) := by
  refine chart_turned (ST := ST) hN hg fun i hi => ?_
  obtain ⟨h1, h2, h3⟩ := hA i hi
  refine ⟨some ⟨A i, 0, none⟩, Lr R i, by rw [clipd, if_pos hi]; rfl, Nat.le_refl _, .inr ⟨A i, rfl, h2, h3.same (hB.block _ h3.lt (fun e => h2 (Option.some.inj e)))⟩⟩

end Go.Proofs.Ytblcphibkcjmdaa

/-
  Slices of pairs of numbers and pairs by value, opened.
-/
import Derived.Test.YtknkpmckgaloaaaGh
import Derived.Lib.SmallJoins
import Derived.Deep.SlicePairs
import Derived.ChangeSlices
namespace Go.Proofs.Ytknkpmckgaloaaa
open Go.ChangeShapes Go.WideShapes Go.ChangeAt Go.RowKit

theorem add_plain (b off k : Nat) : (⟨b, off, none⟩ : Addr).add k = ⟨b, off + k, none⟩ := by
  unfold Addr.add
  split <;> simp_all

/-- Pairs of numbers of kind kd: at block b, from off on. -/
def PairsOf (w : World) (kd : IntKind) (b off n : Nat) (h v : Nat → Int) : Prop :=
  ∀ k, k < n → w.cell? ⟨b, off + k * 2, none⟩ = some (.int kd (h k)) ∧ w.cell? ⟨b, off + k * 2 + 1, none⟩ = some (.int kd (v k))

theorem open_pairs {H : Type} {enc : TypeId × Value → H} {P : Program} {w : World} {base : Nat} {spare : Nat → Bool} {held : Bool} {t e : TypeId} {f0 f1 : Field} {kd : IntKind} {fuel : Nat} {cs : List Value} {x : DataW H × List MemPlace}
    (ht : P.underlying t = some (.slice e)) (he : P.underlying e = some (.struct #[f0, f1])) (ce : P.cellsOf e = 2) (o0 : f0.offset = 0) (o1 : f1.offset = 1) (c0 : P.cellsOf f0.type = 1) (c1 : P.cellsOf f1.type = 1)
    (k0 : P.underlying f0.type = some (.int kd)) (k1 : P.underlying f1.type = some (.int kd)) (h : DataW.trod enc P w base spare held fuel t cs = some x) :
    ∃ (ao : Option Addr) (n cap : Nat) (h v : Nat → Int), cs = [.slice ao n cap] ∧ n ≤ maxLen ∧ (∀ k, k < n → (Lit.int kd (h k)).wf = true ∧ (Lit.int kd (v k)).wf = true) ∧
      (n = 0 ∨ ∃ b off, ao = some ⟨b, off, none⟩ ∧ b < w.heap.size ∧ PairsOf w kd b off n h v) := by
  rcases Go.Deep.open_slice_pairs ht he ce o0 o1 c0 c1 h with ⟨rfl, _⟩ | ⟨a, n, cap, m, n0, V0, V1, D0, D1, P0, P1, rfl, hb, hl, hm, hmm, _, hx⟩
  · exact ⟨none, 0, 0, fun _ => 0, fun _ => 0, rfl, Nat.zero_le _, fun k hk => absurd hk (Nat.not_lt_zero _), .inl rfl⟩
  · have hnm : n ≤ m := by rw [hmm]; split <;> omega
    have hi : ∀ i, i < n → V0 i = .int kd (intOf (V0 i)) ∧ V1 i = .int kd (intOf (V1 i)) ∧ (Lit.int kd (intOf (V0 i))).wf = true ∧ (Lit.int kd (intOf (V1 i))).wf = true := by
      intro i hi
      obtain ⟨_, _, h3, h4⟩ := hx i (by omega)
      obtain ⟨x0, e0, _, w0⟩ := DataW.trod_int k0 h3
      obtain ⟨x1, e1, _, w1⟩ := DataW.trod_int k1 h4
      simp at e0 e1
      rw [e0, e1]
      exact ⟨rfl, rfl, w0, w1⟩
    refine ⟨some a, n, cap, fun i => intOf (V0 i), fun i => intOf (V1 i), rfl, by omega, fun k hk => (hi k hk).2.2, ?_⟩
    by_cases hn : n = 0
    · exact .inl hn
    · obtain ⟨b, off, spot⟩ := a
      obtain ⟨h1, _, _, _⟩ := hx 0 (by omega)
      have hspot : spot = none := by simpa [Addr.add] using World.cell?_spot h1
      subst hspot
      refine .inr ⟨b, off, rfl, ?_, fun k hk => ?_⟩
      · have := World.block_lt_of_cell? w _ h1
        simpa [Addr.add] using this
      · obtain ⟨h2, h3, _, _⟩ := hx k (by omega)
        obtain ⟨h4, h5, _, _⟩ := hi k hk
        rw [add_plain] at h2 h3
        exact ⟨h2.trans (congrArg some h4), (by rw [Nat.add_assoc]; exact h3.trans (congrArg some h5))⟩

end Go.Proofs.Ytknkpmckgaloaaa

/-
  Numbers of a byte and slices of bytes, opened.
-/
import Derived.ChangeSlices
import Derived.Lib.SmallJoins
import Derived.Test.YtblcphibkcjmdaaPlawd
namespace Go.Proofs.Ytblcphibkcjmdaa
open Go.ChangeShapes Go.WideShapes Go.ChangeAt Go.RowKit

section
variable {H : Type} {enc : TypeId × Value → H} {P : Program} {w : World} {base : Nat} {spare : Nat → Bool} {held : Bool}
theorem u8_wf {n : Int} (h : (Lit.int .u8 n).wf = true) : 0 ≤ n ∧ n ≤ 255 := by
  simpa [Lit.wf, IntKind.min, IntKind.max, IntKind.signed, IntKind.bits] using h
theorem open_u8 {t : TypeId} {fuel : Nat} {v : Value} {x : DataW H × List MemPlace} (ht : P.underlying t = some (.int .u8)) (h : DataW.trod enc P w base spare held fuel t [v] = some x) : ∃ n : Nat, n < 256 ∧ v = .int .u8 n := by
  obtain ⟨a, f, _, hw⟩ := DataW.trod_int ht h
  obtain ⟨h1, h2⟩ := u8_wf hw
  obtain ⟨n, rfl⟩ := Int.eq_ofNat_of_zero_le h1
  exact ⟨n, by omega, by simpa using f⟩
theorem open_bytesV {t e : TypeId} {fuel : Nat} {v : Value} {x : DataW H × List MemPlace} (ht : P.underlying t = some (.slice e)) (he : P.underlying e = some (.int .u8)) (hc : P.cellsOf e = 1) (h : DataW.trod enc P w base spare held fuel t [v] = some x) :
    ∃ (ao : Option Addr) (len cap : Nat) (B : Nat → Nat), v = .slice ao len cap ∧ len ≤ 9223372036854775807 ∧ BytesV w ao len B ∧ ∀ t, B t < 256 := by
  rcases open_ints ht he hc h with ⟨hcs, _⟩ | ⟨a, n, c, zs, hcs, _, hl, hm, hz, _, hcell, hwz⟩
  · simp at hcs
    exact ⟨none, 0, 0, fun _ => 0, hcs, Nat.zero_le _, .inl rfl, fun _ => by show 0 < 256; omega⟩
  · simp at hcs
    have hnz : n ≤ zs.length := by rw [hz]; split <;> omega
    unfold maxLen at hm
    have hB : ∀ t, 0 ≤ zs.getD t 0 ∧ zs.getD t 0 ≤ 255 := fun t => by
      by_cases ht : t < zs.length
      · have := hwz (zs.getD t 0) (by simp [ht])
        exact u8_wf this
      · simp [ht]
    refine ⟨some a, n, c, fun t => (zs.getD t 0).toNat, hcs, by omega, ?_, fun t => by have := hB t; show (zs.getD t 0).toNat < 256; omega⟩
    by_cases hn : n = 0
    · exact .inl hn
    · obtain ⟨b, off, spot⟩ := a
      have h0 := hcell 0 (by omega)
      have hspot : spot = none := by simpa [Addr.add] using World.cell?_spot h0
      subst hspot
      refine .inr ⟨b, off, rfl, ?_, fun t ht => ?_⟩
      · have := World.block_lt_of_cell? w _ h0
        simpa [Addr.add] using this
      · have h1 := hcell t (by omega)
        have e : (⟨b, off, none⟩ : Addr).add t = ⟨b, off + t, none⟩ := by unfold Addr.add; split <;> simp_all
        rw [e] at h1
        rw [h1]
        have h2 := (hB t).1
        show some (Value.int .u8 (zs.getD t 0)) = some (Value.int .u8 (((zs.getD t 0).toNat : Nat) : Int))
        rw [Int.toNat_of_nonneg h2]
end

end Go.Proofs.Ytblcphibkcjmdaa

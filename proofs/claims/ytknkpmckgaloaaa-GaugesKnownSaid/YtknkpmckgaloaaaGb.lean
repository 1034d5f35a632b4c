/-
  Contracts of the functions over slices: same.
-/
import Derived.Test.YtknkpmckgaloaaaGa
import Derived.Deep.QuietTactic
import Derived.BigQuiet
namespace Go.Proofs.Ytknkpmckgaloaaa
open Go.RowKit

/-- The cells of block b hold the numbers of l. -/
def IntsAt (w : World) (b : Nat) (l : List Int) : Prop := ∀ i, i < l.length → w.cell? ⟨b, i, none⟩ = some (.int .i64 (l.getD i 0))

set_option maxHeartbeats 400000 in
theorem same_yes (l : List Int) (a b cb : Nat) (w : World) (hl : l.length ≤ 1000000) (ha : IntsAt w a l) (hb : IntsAt w b l) :
    Calls Try.prog 18 #[.slice (some ⟨a, 0, none⟩) l.length l.length, .slice (some ⟨b, 0, none⟩) l.length cb] w fun e w' => e = .returned (.bool true) ∧ ∃ n, w' = w.drewN n := by
  have HA := Lib.hid ha
  have HB := Lib.hid hb
  clear ha hb
  go_enter Try.func18, Try.ntmps18
  go_wp2
  go_loopw [5] (fun i wr => ∃ k : Nat, k ≤ l.length ∧ i = .int .i64 k ∧ ∃ n, wr = w.drewN n) (fun i _ => l.length - (intOf i).toNat)
  case atStart => exact ⟨0, Nat.zero_le _, rfl, 0, rfl⟩
  case round =>
    obtain ⟨k, hk, rfl, n, rfl⟩ := hrel
    by_cases hlt : k < l.length
    · have h1 := HA.out k hlt
      have h2 := HB.out k hlt
      go_wp2
      go_quiet (fail)
      go_wp2
      go_roundw
      case rel => exact ⟨k + 1, by omega, by go_num, _, rfl⟩
      case measure => simp [intOf]; omega
    · go_wp2
      go_ret
      exact ⟨rfl, _, rfl⟩

end Go.Proofs.Ytknkpmckgaloaaa

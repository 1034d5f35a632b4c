/-
  The contract of gauges.Even.
-/
import Derived.Test.YtknkpmckgaloaaaGb
import Derived.StillTailTactics
namespace Go.Proofs.Ytknkpmckgaloaaa
open Go.RowKit

/-- The walk forward: each number is at most the one before, and a step. -/
def fwd (l : Nat → Int) (s : Int) : Nat → Int
  | 0 => l 0
  | k + 1 => min (l (k + 1)) (fwd l s k + s)
/-- The walk backward over f, from the last number n - 1: d places before it. -/
def bwd (f : Nat → Int) (s : Int) (n : Nat) : Nat → Int
  | 0 => f (n - 1)
  | d + 1 => min (f (n - 1 - (d + 1))) (bwd f s n d + s)
/-- What Even returns at i, of n numbers l. -/
def evenAt (l : Nat → Int) (s : Int) (n i : Nat) : Int := bwd (fwd l s) s n (n - 1 - i)

/-- The cells while the walk goes forward, k of them done. -/
def fcells (l : Nat → Int) (s : Int) (k : Nat) : Nat → Int := fun i => if i < k then fwd l s i else 0
/-- The cells while it goes backward, those from k on done. -/
def bcells (l : Nat → Int) (s : Int) (n k : Nat) : Nat → Int := fun i => if k ≤ i then evenAt l s n i else fwd l s i

def lget (l : List Int) : Nat → Int := fun i => l.getD i 0

theorem even_info : (Try.prog.info? 3).map (fun i => (i.zero, i.size, i.bytes)) = some (some (.int .i64 0), 1, 8) := by kernel_rfl

theorem make_ints (n : Nat) (hn : n ≤ 100000) (w : World) : (Instr.makeSlice 31 (.int .i64 (n : Int)) (.int .i64 (n : Int))).run Try.prog w =
    .ok (.slice (some ⟨w.heap.size, 0, none⟩) n n) (w.alloc (.cells (ints n fun _ => 0).toArray 3)) := by
  obtain ⟨i0, hi, hz0, hz1, hz2⟩ := info_parts even_info
  have := run_make (P := Try.prog) w 31 3 i0 (.int .i64 0) Try.underlying31 hi hz0 .i64 .i64 n n (by omega) (by omega) (by rw [hz2]; omega) (by omega)
  rw [this, hz1]
  simp only [Int.toNat_natCast]
  exact congrArg (fun c => Result.ok _ (w.alloc (.cells c _))) (made_zero n)

/-- A slice value over the numbers l: nil or of any capacity. -/
def SliceOf (w : World) (ao : Option Addr) (l : List Int) : Prop := l = [] ∨ ∃ b off, ao = some ⟨b, off, none⟩ ∧ b < w.heap.size ∧ ∀ k, k < l.length → w.cell? ⟨b, off + k, none⟩ = some (.int .i64 (lget l k))

def EvenPost (w : World) (l : List Int) (st : Int) (e : Ending) (w' : World) : Prop :=
  e = .returned (.tuple #[.slice (some ⟨w.heap.size, 0, none⟩) l.length l.length, .int .i64 0]) ∧ Row w' w.heap.size 3 (ints l.length (evenAt (lget l) st l.length)) ∧ Below w.heap.size w w'

theorem fcells_lt (l : Nat → Int) (s : Int) {k i : Nat} (h : i < k) : fcells l s k i = fwd l s i := by simp [fcells, h]
theorem fwd_bd (l : Nat → Int) (s : Int) (hs : 0 ≤ s) (n : Nat) (h : ∀ k, k < n → 0 ≤ l k ∧ l k ≤ 80000) : ∀ k, k < n → 0 ≤ fwd l s k ∧ fwd l s k ≤ 80000
  | 0, hk => h 0 hk
  | k + 1, hk => by
    have := fwd_bd l s hs n h k (by omega)
    have := h (k + 1) hk
    simp only [fwd]
    omega
theorem bwd_bd (f : Nat → Int) (s : Int) (hs : 0 ≤ s) (n : Nat) (hn : 0 < n) (h : ∀ k, k < n → 0 ≤ f k ∧ f k ≤ 80000) : ∀ d, 0 ≤ bwd f s n d ∧ bwd f s n d ≤ 80000
  | 0 => h (n - 1) (by omega)
  | d + 1 => by
    have := bwd_bd f s hs n hn h d
    have := h (n - 1 - (d + 1)) (by omega)
    simp only [bwd]
    omega
theorem fcells_zero (l : Nat → Int) (s : Int) (n : Nat) : ints n (fcells l s 0) = ints n fun _ => 0 := ints_congr fun i _ => by simp [fcells]
theorem fcells_succ0 (l : Nat → Int) (s : Int) (n k : Nat) (h0 : ¬ 0 < k) : (ints n (fcells l s k)).set k (.int .i64 (l k)) = ints n (fcells l s (k + 1)) := by
  obtain rfl : k = 0 := by omega
  rw [ints_set]
  refine ints_congr fun i _ => ?_
  unfold upd fcells
  by_cases h : i = 0
  · subst h; simp [fwd]
  · simp [h]
theorem fcells_succ (l : Nat → Int) (s : Int) (n k : Nat) (h0 : 0 < k) (a x : Int) (hx : x = fwd l s k) :
    ((ints n (fcells l s k)).set k (.int .i64 a)).set k (.int .i64 x) = ints n (fcells l s (k + 1)) := by
  rw [List.set_set, ints_set]
  refine ints_congr fun i _ => ?_
  unfold upd fcells
  by_cases h : i = k
  · subst h; simp [hx]
  · by_cases h2 : i < k
    · simp [h, h2, show i < k + 1 by omega]
    · simp [h, h2, show ¬ i < k + 1 by omega]
theorem fwd_step (l : Nat → Int) (s : Int) (k : Nat) (h0 : 0 < k) : fwd l s k = min (l k) (fwd l s (k - 1) + s) := by
  obtain ⟨j, rfl⟩ : ∃ j, k = j + 1 := ⟨k - 1, by omega⟩
  rfl
theorem bcells_all (l : Nat → Int) (s : Int) (n : Nat) : ints n (fcells l s n) = ints n (bcells l s n (n - 1)) := by
  refine ints_congr fun i hi => ?_
  unfold fcells bcells
  by_cases h : n - 1 ≤ i
  · simp [hi, evenAt, bwd, show n - 1 = i by omega]
  · simp [h, hi]
theorem evenAt_step (l : Nat → Int) (s : Int) (n k : Nat) (h : k + 1 < n) : evenAt l s n k = min (fwd l s k) (evenAt l s n (k + 1) + s) := by
  obtain ⟨d, hd⟩ : ∃ d, n - 1 - k = d + 1 := ⟨n - 1 - k - 1, by omega⟩
  unfold evenAt
  rw [hd, show n - 1 - (k + 1) = d by omega]
  simp only [bwd]
  rw [show n - 1 - (d + 1) = k by omega]
theorem bcells_succ (l : Nat → Int) (s : Int) (n k : Nat) (x : Int) (hx : x = evenAt l s n k) :
    (ints n (bcells l s n (k + 1))).set k (.int .i64 x) = ints n (bcells l s n k) := by
  rw [ints_set]
  refine ints_congr fun i _ => ?_
  unfold upd bcells
  by_cases h : i = k
  · subst h; simp [hx]
  · by_cases h2 : k + 1 ≤ i
    · simp [h, h2, show k ≤ i by omega]
    · simp [h, h2, show ¬ k ≤ i by omega]
theorem bcells_lt (l : Nat → Int) (s : Int) (n : Nat) {k i : Nat} (h : i < k) : bcells l s n k i = fwd l s i := by simp [bcells, show ¬ k ≤ i by omega]
theorem bcells_ge (l : Nat → Int) (s : Int) (n : Nat) {k i : Nat} (h : k ≤ i) : bcells l s n k i = evenAt l s n i := by simp [bcells, h]
theorem bcells_zero (l : Nat → Int) (s : Int) (n : Nat) : ints n (bcells l s n 0) = ints n (evenAt l s n) := by
  refine ints_congr fun i _ => ?_
  simp [bcells]

set_option maxHeartbeats 400000 in
theorem even_nil (s : Int) (ao : Option Addr) (cap : Nat) (w : World) (hs : 0 ≤ s) :
    Calls Try.prog 19 #[.slice ao 0 cap, .int .i64 s] w (EvenPost w [] (min s 80000)) := by
  have hmk := make_ints 0 (by omega)
  simp only [Int.ofNat_zero] at hmk
  go_enter Try.func19, Try.ntmps19
  go_wp2
  go_rounds 1
  all_goals go_rounds 1
  all_goals go_rounds 1
  all_goals
    go_ret2
    exact ⟨rfl, Row.new _ _ _, (Below.refl _ _).alloc (Nat.le_refl _) _⟩

set_option maxHeartbeats 2000000 in
theorem even_yes1 (l : List Int) (s : Int) (ao : Option Addr) (cap : Nat) (w : World) (hl : l.length ≤ 400) (hs : 0 ≤ s) (hs2 : s ≤ 80000) (hv : ∀ k, k < l.length → 0 ≤ lget l k ∧ lget l k ≤ 80000) (ha : SliceOf w ao l) (hne : l ≠ []) :
    Calls Try.prog 19 #[.slice ao l.length cap, .int .i64 s] w (EvenPost w l s) := by
  have HV := Lib.hid hv
  have HF := Lib.hid (fwd_bd (lget l) s (by omega) l.length hv)
  clear hv
  have HM := Lib.hid (make_ints l.length (by omega))
  rcases ha with rfl | ⟨b, off, rfl, hb, hc⟩
  · exact absurd rfl hne
  have HC := Lib.hid hc
  clear hc
  have hpos : 0 < l.length := List.length_pos_iff.2 hne
  clear hne
  have HE : Hid (∀ i, 0 ≤ evenAt (lget l) s l.length i ∧ evenAt (lget l) s l.length i ≤ 80000) := Lib.hid (fun i => bwd_bd (fwd (lget l) s) s (by omega) l.length hpos HF.out (l.length - 1 - i))
  go_enter Try.func19, Try.ntmps19
  go_wp2
  go_loop [16] (fun i => ∃ k : Nat, k ≤ l.length ∧ i = .int .i64 k) (fun i => l.length - (intOf i).toNat)
  case atStart => exact ⟨0, Nat.zero_le _, rfl⟩
  case round =>
    obtain ⟨k, hk, rfl⟩ := hrel
    by_cases hlt : k < l.length
    · have h1 := HC.out k hlt
      obtain ⟨h2, h3⟩ := HV.out k hlt
      go_wp2
      go_round
      case rel => exact ⟨k + 1, by omega, by go_num⟩
      case measure => first | (simp [intOf]; done) | (simp [intOf]; omega)
    · clear hk
      have hmk := HM.out
      go_wp2
      clear hmk
      go_loopw [37] (fun i wr => ∃ k : Nat, k ≤ l.length ∧ i = .int .i64 k ∧ Row wr w.heap.size 3 (ints l.length (fcells (lget l) s k)) ∧ Below w.heap.size w wr) (fun i _ => l.length - (intOf i).toNat)
      case atStart => exact ⟨0, Nat.zero_le _, rfl, by rw [fcells_zero]; exact Row.new _ _ _, (Below.refl _ _).alloc (Nat.le_refl _) _⟩
      case round =>
        obtain ⟨k2, hk2, rfl, hr, hB⟩ := hrel
        by_cases hlt2 : k2 < l.length
        · have h1 := (hB.cell (p := ⟨b, off + k2, none⟩) hb).trans (HC.out k2 hlt2)
          obtain ⟨h2, h3⟩ := HV.out k2 hlt2
          have h4 := hr.cell (ints_get _ hlt2)
          have h5 := hr.frozen k2
          by_cases h0 : 0 < k2
          · have h6 := hr.cell (ints_get _ (show k2 - 1 < l.length by omega))
            rw [fcells_lt _ _ (show k2 - 1 < k2 by omega)] at h6
            obtain ⟨h7, h8⟩ := HF.out (k2 - 1) (by omega)
            go_wp2
            go_roundw
            case rel =>
              exact ⟨k2 + 1, by omega, by go_num, ((hr.setCell k2 _).setCell k2 _).to (fcells_succ _ _ _ _ h0 _ _ (by rw [fwd_step _ _ _ h0]; first | omega | (split <;> omega))), (hB.setCell (p := ⟨w.heap.size, k2, none⟩) (Nat.le_refl _) _).setCell (p := ⟨w.heap.size, k2, none⟩) (Nat.le_refl _) _⟩
            case measure => first | (simp [intOf]; done) | (simp [intOf]; omega)
          · go_wp2
            go_roundw
            case rel =>
              exact ⟨k2 + 1, by omega, by go_num, (hr.setCell k2 _).to (fcells_succ0 _ _ _ _ h0), hB.setCell (p := ⟨w.heap.size, k2, none⟩) (Nat.le_refl _) _⟩
            case measure => first | (simp [intOf]; done) | (simp [intOf]; omega)
        · obtain rfl : k2 = l.length := by omega
          have hr2 := hr.to (bcells_all _ _ _)
          clear hr
          go_wp2
          go_loopw [11] (fun i wr => ∃ k : Nat, k < l.length ∧ i = .int .i64 ((k : Int) - 1) ∧ Row wr w.heap.size 3 (ints l.length (bcells (lget l) s l.length k)) ∧ Below w.heap.size w wr) (fun i _ => (intOf i + 1).toNat)
          case atStart => exact ⟨l.length - 1, by omega, by congr 1; omega, hr2, hB⟩
          case round =>
            obtain ⟨k3, hk3, rfl, hr3, hB3⟩ := hrel
            by_cases h0 : 0 < k3
            · obtain ⟨k4, rfl⟩ : ∃ k4, k3 = k4 + 1 := ⟨k3 - 1, by omega⟩
              have h4 := hr3.cell (ints_get _ (show k4 < l.length by omega))
              have h5 := hr3.frozen k4
              have h6 := hr3.cell (ints_get _ (show k4 + 1 < l.length by omega))
              rw [bcells_lt _ _ _ (show k4 < k4 + 1 by omega)] at h4
              rw [bcells_ge _ _ _ (Nat.le_refl _)] at h6
              obtain ⟨h7, h8⟩ := HE.out (k4 + 1)
              rw [show ((k4 + 1 : Nat) : Int) - 1 = (k4 : Int) by omega]
              go_wp2
              go_region
              go_wp2
              go_roundw
              case rel =>
                exact ⟨k4, by omega, by go_num, (Row.drew (hr3.setCell k4 _)).to (bcells_succ _ _ _ _ _ (by rw [evenAt_step _ _ _ _ hk3]; first | omega | (split <;> omega))), Below.drew (hB3.setCell (p := ⟨w.heap.size, k4, none⟩) (Nat.le_refl _) _)⟩
              case measure => first | (simp [intOf]; done) | (simp [intOf]; omega)
            · obtain rfl : k3 = 0 := by omega
              go_wp2
              go_ret2
              exact ⟨rfl, hr3.to (bcells_zero _ _ _), hB3⟩

set_option maxHeartbeats 2000000 in
theorem even_yes2 (l : List Int) (s : Int) (ao : Option Addr) (cap : Nat) (w : World) (hl : l.length ≤ 400) (_hs : 0 ≤ s) (hs2 : 80000 < s) (hv : ∀ k, k < l.length → 0 ≤ lget l k ∧ lget l k ≤ 80000) (ha : SliceOf w ao l) (hne : l ≠ []) :
    Calls Try.prog 19 #[.slice ao l.length cap, .int .i64 s] w (EvenPost w l 80000) := by
  have HV := Lib.hid hv
  have HF := Lib.hid (fwd_bd (lget l) 80000 (by omega) l.length hv)
  clear hv
  have HM := Lib.hid (make_ints l.length (by omega))
  rcases ha with rfl | ⟨b, off, rfl, hb, hc⟩
  · exact absurd rfl hne
  have HC := Lib.hid hc
  clear hc
  have hpos : 0 < l.length := List.length_pos_iff.2 hne
  clear hne
  have HE : Hid (∀ i, 0 ≤ evenAt (lget l) 80000 l.length i ∧ evenAt (lget l) 80000 l.length i ≤ 80000) := Lib.hid (fun i => bwd_bd (fwd (lget l) 80000) 80000 (by omega) l.length hpos HF.out (l.length - 1 - i))
  go_enter Try.func19, Try.ntmps19
  go_wp2
  go_loop [16] (fun i => ∃ k : Nat, k ≤ l.length ∧ i = .int .i64 k) (fun i => l.length - (intOf i).toNat)
  case atStart => exact ⟨0, Nat.zero_le _, rfl⟩
  case round =>
    obtain ⟨k, hk, rfl⟩ := hrel
    by_cases hlt : k < l.length
    · have h1 := HC.out k hlt
      obtain ⟨h2, h3⟩ := HV.out k hlt
      go_wp2
      go_round
      case rel => exact ⟨k + 1, by omega, by go_num⟩
      case measure => first | (simp [intOf]; done) | (simp [intOf]; omega)
    · clear hk
      have hmk := HM.out
      go_wp2
      clear hmk
      go_loopw [37] (fun i wr => ∃ k : Nat, k ≤ l.length ∧ i = .int .i64 k ∧ Row wr w.heap.size 3 (ints l.length (fcells (lget l) 80000 k)) ∧ Below w.heap.size w wr) (fun i _ => l.length - (intOf i).toNat)
      case atStart => exact ⟨0, Nat.zero_le _, rfl, by rw [fcells_zero]; exact Row.new _ _ _, (Below.refl _ _).alloc (Nat.le_refl _) _⟩
      case round =>
        obtain ⟨k2, hk2, rfl, hr, hB⟩ := hrel
        by_cases hlt2 : k2 < l.length
        · have h1 := (hB.cell (p := ⟨b, off + k2, none⟩) hb).trans (HC.out k2 hlt2)
          obtain ⟨h2, h3⟩ := HV.out k2 hlt2
          have h4 := hr.cell (ints_get _ hlt2)
          have h5 := hr.frozen k2
          by_cases h0 : 0 < k2
          · have h6 := hr.cell (ints_get _ (show k2 - 1 < l.length by omega))
            rw [fcells_lt _ _ (show k2 - 1 < k2 by omega)] at h6
            obtain ⟨h7, h8⟩ := HF.out (k2 - 1) (by omega)
            go_wp2
            go_roundw
            case rel =>
              exact ⟨k2 + 1, by omega, by go_num, ((hr.setCell k2 _).setCell k2 _).to (fcells_succ _ _ _ _ h0 _ _ (by rw [fwd_step _ _ _ h0]; first | omega | (split <;> omega))), (hB.setCell (p := ⟨w.heap.size, k2, none⟩) (Nat.le_refl _) _).setCell (p := ⟨w.heap.size, k2, none⟩) (Nat.le_refl _) _⟩
            case measure => first | (simp [intOf]; done) | (simp [intOf]; omega)
          · go_wp2
            go_roundw
            case rel =>
              exact ⟨k2 + 1, by omega, by go_num, (hr.setCell k2 _).to (fcells_succ0 _ _ _ _ h0), hB.setCell (p := ⟨w.heap.size, k2, none⟩) (Nat.le_refl _) _⟩
            case measure => first | (simp [intOf]; done) | (simp [intOf]; omega)
        · obtain rfl : k2 = l.length := by omega
          have hr2 := hr.to (bcells_all _ _ _)
          clear hr
          go_wp2
          go_loopw [11] (fun i wr => ∃ k : Nat, k < l.length ∧ i = .int .i64 ((k : Int) - 1) ∧ Row wr w.heap.size 3 (ints l.length (bcells (lget l) 80000 l.length k)) ∧ Below w.heap.size w wr) (fun i _ => (intOf i + 1).toNat)
          case atStart => exact ⟨l.length - 1, by omega, by congr 1; omega, hr2, hB⟩
          case round =>
            obtain ⟨k3, hk3, rfl, hr3, hB3⟩ := hrel
            by_cases h0 : 0 < k3
            · obtain ⟨k4, rfl⟩ : ∃ k4, k3 = k4 + 1 := ⟨k3 - 1, by omega⟩
              have h4 := hr3.cell (ints_get _ (show k4 < l.length by omega))
              have h5 := hr3.frozen k4
              have h6 := hr3.cell (ints_get _ (show k4 + 1 < l.length by omega))
              rw [bcells_lt _ _ _ (show k4 < k4 + 1 by omega)] at h4
              rw [bcells_ge _ _ _ (Nat.le_refl _)] at h6
              obtain ⟨h7, h8⟩ := HE.out (k4 + 1)
              rw [show ((k4 + 1 : Nat) : Int) - 1 = (k4 : Int) by omega]
              go_wp2
              go_region
              go_wp2
              go_roundw
              case rel =>
                exact ⟨k4, by omega, by go_num, (Row.drew (hr3.setCell k4 _)).to (bcells_succ _ _ _ _ _ (by rw [evenAt_step _ _ _ _ hk3]; first | omega | (split <;> omega))), Below.drew (hB3.setCell (p := ⟨w.heap.size, k4, none⟩) (Nat.le_refl _) _)⟩
              case measure => first | (simp [intOf]; done) | (simp [intOf]; omega)
            · obtain rfl : k3 = 0 := by omega
              go_wp2
              go_ret2
              exact ⟨rfl, hr3.to (bcells_zero _ _ _), hB3⟩

theorem even_any (l : List Int) (s : Int) (ao : Option Addr) (cap : Nat) (w : World) (hl : l.length ≤ 400) (hs : 0 ≤ s) (hv : ∀ k, k < l.length → 0 ≤ lget l k ∧ lget l k ≤ 80000) (ha : SliceOf w ao l) :
    Calls Try.prog 19 #[.slice ao l.length cap, .int .i64 s] w (EvenPost w l (min s 80000)) := by
  by_cases hne : l = []
  · subst hne
    exact even_nil s ao cap w hs
  · by_cases h : s ≤ 80000
    · rw [show min s 80000 = s by omega]
      exact even_yes1 l s ao cap w hl hs h hv ha hne
    · rw [show min s 80000 = 80000 by omega]
      exact even_yes2 l s ao cap w hl hs (by omega) hv ha hne

end Go.Proofs.Ytknkpmckgaloaaa

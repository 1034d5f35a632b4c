/-
  Contracts: pictures.Colours, pictures.Relief.
-/
import Derived.Test.YtblcphibkcjmdaaPpl
namespace Go.Proofs.Ytblcphibkcjmdaa
open Go.RowKit

/-- The cells of n values. -/
def vrow (n : Nat) (f : Nat → Value) : List Value := (List.range n).map f
theorem vrow_len (n : Nat) (f : Nat → Value) : (vrow n f).length = n := by simp [vrow]
theorem vrow_get {n : Nat} (f : Nat → Value) {i : Nat} (h : i < n) : (vrow n f)[i]? = some (f i) := by simp [vrow, h]
theorem vrow_snoc (n : Nat) (f : Nat → Value) : vrow (n + 1) f = vrow n f ++ [f n] := by simp [vrow, List.range_succ]

/-- Rows of values, as slices that are as long as they may be, at block g. -/
def MatAt (w : World) (g n : Nat) (E : TypeId) (L : Nat → Nat) (V : Nat → Nat → Value) : Prop := ∀ i, i < n → ∃ h, w.cell? ⟨g, i, none⟩ = some (.slice (some ⟨h, 0, none⟩) (L i) (L i)) ∧ Row w h E (vrow (L i) (V i))
theorem MatAt.below {w w' : World} {g n : Nat} {E : TypeId} {L : Nat → Nat} {V : Nat → Nat → Value} (hm : MatAt w g n E L V) (hB : Below w.heap.size w w') (hg : g < w.heap.size) : MatAt w' g n E L V := fun i hi => by
  obtain ⟨h, h1, h2⟩ := hm i hi
  exact ⟨h, (hB.cell (p := ⟨g, i, none⟩) hg).trans h1, h2.below hB h2.lt⟩
def MatPost (w : World) (n : Nat) (E : TypeId) (L : Nat → Nat) (V : Nat → Nat → Value) (e : Ending) (w' : World) : Prop := ∃ g, e = .returned (.slice (some ⟨g, 0, none⟩) n n) ∧ MatAt w' g n E L V ∧ g < w'.heap.size ∧ Below w.heap.size w w'

/-- The rows that the list xs of slices names. -/
def RowsOf (w : World) (k : Nat) (E : TypeId) (L : Nat → Nat) (V : Nat → Nat → Value) (xs : List Value) : Prop := ∀ i, i < k → ∃ h, xs[i]? = some (.slice (some ⟨h, 0, none⟩) (L i) (L i)) ∧ Row w h E (vrow (L i) (V i))
theorem RowsOf.below {w w' : World} {k : Nat} {E : TypeId} {L : Nat → Nat} {V : Nat → Nat → Value} {xs : List Value} (hm : RowsOf w k E L V xs) (hB : Below w.heap.size w w') : RowsOf w' k E L V xs := fun i hi => by
  obtain ⟨h, h1, h2⟩ := hm i hi
  exact ⟨h, h1, h2.below hB h2.lt⟩
/-- A row more, appended in place: the rows' own blocks are others. -/
theorem RowsOf.snoc {w w' : World} {k : Nat} {E E2 base n cap go h : Nat} {o : Obj} {L : Nat → Nat} {V : Nat → Nat → Value} {xs ys : List Value} (hm : RowsOf w k E L V xs) (hl : xs.length = k) (hr : Row w h E (vrow (L k) (V k)))
    (ho : w.ownsRow base E2 1 (.slice (some ⟨go, 0, none⟩) n cap) n ys) (he : E ≠ E2) (hg : (w.alloc o).grownBy w' (some go)) :
    RowsOf w' (k + 1) E L V (xs ++ [.slice (some ⟨h, 0, none⟩) (L k) (L k)]) := fun i hi => by
  have keep : ∀ {h : Nat} {cs : List Value}, Row w h E cs → Row w' h E cs := fun {h cs} hr =>
    Row.of_heap (hr.alloc o) (hg.block h (by have := hr.lt; simp; omega) (fun e => row_not_owned hr ho he (Option.some.inj e)))
  by_cases hik : i < k
  · obtain ⟨h2, h3, h4⟩ := hm i hik
    exact ⟨h2, by rw [List.getElem?_append_left (by omega)]; exact h3, keep h4⟩
  · obtain rfl : i = k := by omega
    exact ⟨h, by rw [List.getElem?_append_right (by omega), hl]; simp, keep hr⟩
theorem mat_of_rows {w : World} {n base g : Nat} {E E2 : TypeId} {L : Nat → Nat} {V : Nat → Nat → Value} {xs : List Value} (hm : RowsOf w n E L V xs) (ho : w.ownsRow base E2 1 (.slice (some ⟨g, 0, none⟩) n n) n xs) : MatAt w g n E L V := fun i hi => by
  obtain ⟨h, h1, h2⟩ := hm i hi
  have := ho.cells rfl i _ h1
  rw [add_zero_addr] at this
  exact ⟨h, this, h2⟩

theorem u8_info : (Try.prog.info? 5).map (fun i => (i.zero, i.size, i.bytes)) = some (some (.int .u8 0), 1, 1) := by kernel_rfl
theorem bool_info : (Try.prog.info? 4).map (fun i => (i.zero, i.size, i.bytes)) = some (some (.bool false), 1, 1) := by kernel_rfl
theorem u8s_info : (Try.prog.info? 22).map (fun i => (i.zero, i.size, i.bytes)) = some (some (.slice none 0 0), 1, 24) := by kernel_rfl
theorem bools_info : (Try.prog.info? 35).map (fun i => (i.zero, i.size, i.bytes)) = some (some (.slice none 0 0), 1, 24) := by kernel_rfl

/-- The yarn of a stitch, and whether it is purl. -/
def yarnV (Y : Nat → Nat → Int) (i j : Nat) : Value := .int .u8 (Y i j)
def purlV (K : Nat → Nat → Int) (i j : Nat) : Value := .bool (decide (K i j = 2))

theorem one_at2 (w : World) (A : Obj) (x : Value) (t : TypeId) : ∀ j u, [x][j]? = some u → ((w.alloc A).alloc (.cells #[x] t)).cell? ((⟨w.heap.size + 1, 0, none⟩ : Addr).add j) = some u := by
  intro j u hj
  match j, hj with
  | 0, hj =>
    simp at hj
    subst hj
    rw [add_zero_addr]
    simp [go_sem]

set_option maxRecDepth 20000 in
set_option maxHeartbeats 4000000 in
theorem colours_any (n cap b off : Nat) (L : Nat → Nat) (K Y : Nat → Nat → Int) (w : World) (hn : n ≤ 1000) (hb : b < w.heap.size) (hc : ChartAt w b off n L K Y) (hs : SimpleChart n L K Y) (hL : ∀ i, i < n → 1 ≤ L i) :
    Calls Try.prog 6 #[.agg #[.slice (some ⟨b, off, none⟩) n cap]] w (MatPost w n 5 L (yarnV Y)) := by
  have HC := Lib.hid (fun w1 (hB : Below w.heap.size w w1) => hc.below hB (Nat.le_refl _) hb)
  have HS := Lib.hid hs
  have HL := Lib.hid hL
  clear hc hs hL
  obtain ⟨i0, hi, hz0, hz1, hz2⟩ := info_parts u8_info
  obtain ⟨j0, hj, hy0, hy1, hy2⟩ := info_parts u8s_info
  go_enter Try.func6, Try.ntmps6
  go_wp2_with (at_make; refine wpList_make_own _ rfl _ _ 30 rfl (w.heap.size + 1) 22 j0 (.slice none 0 0) 1 Try.underlying30 hj hy0 hy1 _ _ _ n rfl rfl rfl (by rw [hy2]; omega) (by unfold maxLen; omega) (by simp) ?_; intro w2 hown2 hgrow2; have d1 := hgrow2.cell (a := ⟨w.heap.size, 0, none⟩) (v := .slice (some ⟨b, off, none⟩) n cap) (by simp [go_sem]) (by simp))
  have hC2 : Below w.heap.size w w2 := Below.grown ((Below.refl _ w).alloc (Nat.le_refl _) _) hgrow2 (by simp) (by intro k hk; cases hk)
  have hO2 : w2.ownsRow (w.heap.size + 1) 22 1 (.slice (some ⟨w.heap.size + 1, 0, none⟩) 0 n) 0 [] := by simpa using hown2
  have HO2 := Lib.hid hO2
  clear hown2 hgrow2 hO2 d1
  go_loopw [3, 16] (fun o i wr => ∃ (k : Nat) (xs : List Value), k ≤ n ∧ i = .int .i64 k ∧ o = .slice (some ⟨w.heap.size + 1, 0, none⟩) k n ∧ wr.ownsRow (w.heap.size + 1) 22 1 (.slice (some ⟨w.heap.size + 1, 0, none⟩) k n) k xs ∧ RowsOf wr k 5 L (yarnV Y) xs ∧ Below w.heap.size w wr) (fun _ i _ => n - (intOf i).toNat)
  case atStart => exact ⟨0, [], Nat.zero_le _, rfl, rfl, HO2.out, fun i hi => absurd hi (Nat.not_lt_zero _), hC2⟩
  case round =>
    obtain ⟨k, xs, hk, rfl, rfl, hrow, hrs, hB⟩ := hrel
    have HO := Lib.hid hrow
    have HRS := Lib.hid hrs
    clear hrow hrs
    by_cases hkn : k < n
    · obtain ⟨ra, rc, _, q2, q3⟩ := HC.out wr hB k hkn
      have hl1 := HL.out k hkn
      have hl2 := (HS.out k hkn).2
      rcases q3 with h0 | ⟨b2, o2, rfl, hb2, q3⟩
      · omega
      have QR := Lib.hid q3
      clear q3
      have hz := hB.size
      go_wp2_with (at_make; refine wpList_make_own _ rfl _ _ 22 rfl wr.heap.size 5 i0 (.int .u8 0) 1 Try.underlying22 hi hz0 hz1 _ _ _ (L k) rfl rfl rfl (by rw [hz2]; omega) (by unfold maxLen; omega) (Nat.le_refl _) ?_; intro w3 hown3 hgrow3)
      have hC3 : Below wr.heap.size wr w3 := Below.grown (Below.refl _ _) hgrow3 (Nat.le_refl _) (by intro k hk; cases hk)
      have HO3 := Lib.hid hown3
      clear hown3 hgrow3 q2
      obtain ⟨wo, rfl⟩ : ∃ wo : World, wo = wr := ⟨_, rfl⟩
      go_loopw [6, 25] (fun o i wr => ∃ j : Nat, j ≤ L k ∧ i = .int .i64 j ∧ o = .slice (some ⟨wo.heap.size, 0, none⟩) j (L k) ∧ wr.ownsRow wo.heap.size 5 1 (.slice (some ⟨wo.heap.size, 0, none⟩) j (L k)) j (vrow j (yarnV Y k)) ∧ Below wo.heap.size wo wr) (fun _ i _ => L k - (intOf i).toNat)
      case atStart => exact ⟨0, Nat.zero_le _, rfl, rfl, HO3.out, hC3⟩
      case round =>
        obtain ⟨j, hj2, rfl, rfl, hrow4, hB4⟩ := hrel
        have HO4 := Lib.hid hrow4
        clear hrow4
        have hz4 := hB4.size
        by_cases hjl : j < L k
        · obtain ⟨e1, e2, e3, e4, e5⟩ := (QR.out.below hB4 hb2) j hjl
          go_wp2_with (at_builtin; refine wpList_append_fits _ rfl _ _ 22 rfl wo.heap.size 5 i0 1 Try.underlying22 hi hz1 _ j (L k) _ rfl ((HO4.out.alloc _).alloc _) ⟨wr.heap.size + 1, 0, none⟩ 1 1 [.int .u8 (Y k j)] rfl rfl (one_at2 _ _ _ _) (by simp [Value.oneCell']) (by omega) ?_; intro w5 hown5 hgrow5)
          have hC5 : Below wo.heap.size wo w5 := Below.grown ((hB4.alloc hz4 _).alloc (by simp; omega) _) hgrow5 (by simp; omega) (fun j hj => by cases hj; omega)
          have e6 : vrow j (yarnV Y k) ++ [.int .u8 (Y k j)] = vrow (j + 1) (yarnV Y k) := by rw [vrow_snoc]; first | rfl | (congr 2; rfl)
          rw [e6] at hown5
          have HO5 := Lib.hid hown5
          clear hown5 hgrow5 e6 HO4
          go_roundw
          case rel => exact ⟨j + 1, by omega, by go_num, rfl, HO5.out, hC5⟩
          case measure => simp [intOf]; omega
        · obtain rfl : L k = j := by omega
          have hC4 : Below w.heap.size w wr := hB.trans (hB4.mono hz)
          have HR4 := Lib.hid (row_full HO4.out)
          have HRS4 := Lib.hid (HRS.out.below hB4)
          have HO6 := Lib.hid (HO.out.kept (row := none) ⟨hB4.os, hB4.tape, hB4.output, hB4.size, fun j hj _ => hB4.block j hj⟩ (by simp [Value.ownBlock]))
          clear HO HRS HO4 HO3
          go_wp2_with (at_builtin; refine wpList_append_fits _ rfl _ _ 30 rfl (w.heap.size + 1) 22 j0 1 Try.underlying30 hj hy1 _ k n _ rfl (HO6.out.alloc _) ⟨wr.heap.size, 0, none⟩ 1 1 [.slice (some ⟨wo.heap.size, 0, none⟩) (L k) (L k)] rfl rfl (cell_one_new _ _ _) (by simp [Value.oneCell']) (by omega) ?_; intro w7 hown7 hgrow7)
          have hC7 : Below w.heap.size w w7 := Below.grown (hC4.alloc hC4.size _) hgrow7 (by have := hC4.size; simp; omega) (fun j hj => by cases hj; omega)
          have HRS7 := Lib.hid (RowsOf.snoc HRS4.out (by simpa using HO6.out.1) HR4.out HO6.out (by decide) hgrow7)
          have HO7 := Lib.hid hown7
          clear hown7 hgrow7 HRS4 HR4 HO6
          go_roundw
          case rel => exact ⟨k + 1, _, by omega, by go_num, rfl, HO7.out, HRS7.out, hC7⟩
          case measure => simp [intOf]; omega
    · obtain rfl : n = k := by omega
      have HM := Lib.hid (mat_of_rows HRS.out HO.out)
      have hlt := (HO.out.lt _ rfl).2
      clear HO HRS
      go_wp2
      go_ret
      exact ⟨w.heap.size + 1, rfl, HM.out, hlt, hB⟩

set_option maxRecDepth 20000 in
set_option maxHeartbeats 4000000 in
theorem relief_any (n cap b off : Nat) (L : Nat → Nat) (K Y : Nat → Nat → Int) (w : World) (hn : n ≤ 1000) (hb : b < w.heap.size) (hc : ChartAt w b off n L K Y) (hs : SimpleChart n L K Y) (hL : ∀ i, i < n → 1 ≤ L i) :
    Calls Try.prog 7 #[.agg #[.slice (some ⟨b, off, none⟩) n cap]] w (MatPost w n 4 L (purlV K)) := by
  have HC := Lib.hid (fun w1 (hB : Below w.heap.size w w1) => hc.below hB (Nat.le_refl _) hb)
  have HS := Lib.hid hs
  have HL := Lib.hid hL
  clear hc hs hL
  obtain ⟨i0, hi, hz0, hz1, hz2⟩ := info_parts bool_info
  obtain ⟨j0, hj, hy0, hy1, hy2⟩ := info_parts bools_info
  go_enter Try.func7, Try.ntmps7
  go_wp2_with (at_make; refine wpList_make_own _ rfl _ _ 32 rfl (w.heap.size + 1) 35 j0 (.slice none 0 0) 1 Try.underlying32 hj hy0 hy1 _ _ _ n rfl rfl rfl (by rw [hy2]; omega) (by unfold maxLen; omega) (by simp) ?_; intro w2 hown2 hgrow2; have d1 := hgrow2.cell (a := ⟨w.heap.size, 0, none⟩) (v := .slice (some ⟨b, off, none⟩) n cap) (by simp [go_sem]) (by simp))
  have hC2 : Below w.heap.size w w2 := Below.grown ((Below.refl _ w).alloc (Nat.le_refl _) _) hgrow2 (by simp) (by intro k hk; cases hk)
  have hO2 : w2.ownsRow (w.heap.size + 1) 35 1 (.slice (some ⟨w.heap.size + 1, 0, none⟩) 0 n) 0 [] := by simpa using hown2
  have HO2 := Lib.hid hO2
  clear hown2 hgrow2 hO2 d1
  go_loopw [3, 16] (fun o i wr => ∃ (k : Nat) (xs : List Value), k ≤ n ∧ i = .int .i64 k ∧ o = .slice (some ⟨w.heap.size + 1, 0, none⟩) k n ∧ wr.ownsRow (w.heap.size + 1) 35 1 (.slice (some ⟨w.heap.size + 1, 0, none⟩) k n) k xs ∧ RowsOf wr k 4 L (purlV K) xs ∧ Below w.heap.size w wr) (fun _ i _ => n - (intOf i).toNat)
  case atStart => exact ⟨0, [], Nat.zero_le _, rfl, rfl, HO2.out, fun i hi => absurd hi (Nat.not_lt_zero _), hC2⟩
  case round =>
    obtain ⟨k, xs, hk, rfl, rfl, hrow, hrs, hB⟩ := hrel
    have HO := Lib.hid hrow
    have HRS := Lib.hid hrs
    clear hrow hrs
    by_cases hkn : k < n
    · obtain ⟨ra, rc, _, q2, q3⟩ := HC.out wr hB k hkn
      have hl1 := HL.out k hkn
      have hl2 := (HS.out k hkn).2
      rcases q3 with h0 | ⟨b2, o2, rfl, hb2, q3⟩
      · omega
      have QR := Lib.hid q3
      clear q3
      have hz := hB.size
      go_wp2_with (at_make; refine wpList_make_own _ rfl _ _ 35 rfl wr.heap.size 4 i0 (.bool false) 1 Try.underlying35 hi hz0 hz1 _ _ _ (L k) rfl rfl rfl (by rw [hz2]; omega) (by unfold maxLen; omega) (Nat.le_refl _) ?_; intro w3 hown3 hgrow3)
      have hC3 : Below wr.heap.size wr w3 := Below.grown (Below.refl _ _) hgrow3 (Nat.le_refl _) (by intro k hk; cases hk)
      have HO3 := Lib.hid hown3
      clear hown3 hgrow3 q2
      obtain ⟨wo, rfl⟩ : ∃ wo : World, wo = wr := ⟨_, rfl⟩
      go_loopw [6, 25] (fun o i wr => ∃ j : Nat, j ≤ L k ∧ i = .int .i64 j ∧ o = .slice (some ⟨wo.heap.size, 0, none⟩) j (L k) ∧ wr.ownsRow wo.heap.size 4 1 (.slice (some ⟨wo.heap.size, 0, none⟩) j (L k)) j (vrow j (purlV K k)) ∧ Below wo.heap.size wo wr) (fun _ i _ => L k - (intOf i).toNat)
      case atStart => exact ⟨0, Nat.zero_le _, rfl, rfl, HO3.out, hC3⟩
      case round =>
        obtain ⟨j, hj2, rfl, rfl, hrow4, hB4⟩ := hrel
        have HO4 := Lib.hid hrow4
        clear hrow4
        have hz4 := hB4.size
        by_cases hjl : j < L k
        · obtain ⟨e1, e2, e3, e4, e5⟩ := (QR.out.below hB4 hb2) j hjl
          obtain ⟨s1, s2, _, _⟩ := (HS.out k hkn).1 j hjl
          have hk12 : K k j = 1 ∨ K k j = 2 := by omega
          clear s1 s2
          rcases hk12 with hk1 | hk1
          · rw [hk1] at e1
            have HK := Lib.hid hk1
            clear hk1
            go_wp2_with (at_builtin; refine wpList_append_fits _ rfl _ _ 35 rfl wo.heap.size 4 i0 1 Try.underlying35 hi hz1 _ j (L k) _ rfl ((HO4.out.alloc _).alloc _) ⟨wr.heap.size + 1, 0, none⟩ 1 1 [.bool false] rfl rfl (one_at2 _ _ _ _) (by simp [Value.oneCell']) (by omega) ?_; intro w5 hown5 hgrow5)
            have hC5 : Below wo.heap.size wo w5 := Below.grown ((hB4.alloc hz4 _).alloc (by simp; omega) _) hgrow5 (by simp; omega) (fun j hj => by cases hj; omega)
            have e6 : vrow j (purlV K k) ++ [.bool false] = vrow (j + 1) (purlV K k) := by rw [vrow_snoc]; first | rfl | (congr 2; unfold purlV; rw [HK.out]; rfl)
            rw [e6] at hown5
            have HO5 := Lib.hid hown5
            clear hown5 hgrow5 e6 HO4
            go_roundw
            case rel => exact ⟨j + 1, by omega, by go_num, rfl, HO5.out, hC5⟩
            case measure => simp [intOf]; omega
          · rw [hk1] at e1
            have HK := Lib.hid hk1
            clear hk1
            go_wp2_with (at_builtin; refine wpList_append_fits _ rfl _ _ 35 rfl wo.heap.size 4 i0 1 Try.underlying35 hi hz1 _ j (L k) _ rfl ((HO4.out.alloc _).alloc _) ⟨wr.heap.size + 1, 0, none⟩ 1 1 [.bool true] rfl rfl (one_at2 _ _ _ _) (by simp [Value.oneCell']) (by omega) ?_; intro w5 hown5 hgrow5)
            have hC5 : Below wo.heap.size wo w5 := Below.grown ((hB4.alloc hz4 _).alloc (by simp; omega) _) hgrow5 (by simp; omega) (fun j hj => by cases hj; omega)
            have e6 : vrow j (purlV K k) ++ [.bool true] = vrow (j + 1) (purlV K k) := by rw [vrow_snoc]; first | rfl | (congr 2; unfold purlV; rw [HK.out]; rfl)
            rw [e6] at hown5
            have HO5 := Lib.hid hown5
            clear hown5 hgrow5 e6 HO4
            go_roundw
            case rel => exact ⟨j + 1, by omega, by go_num, rfl, HO5.out, hC5⟩
            case measure => simp [intOf]; omega
        · obtain rfl : L k = j := by omega
          have hC4 : Below w.heap.size w wr := hB.trans (hB4.mono hz)
          have HR4 := Lib.hid (row_full HO4.out)
          have HRS4 := Lib.hid (HRS.out.below hB4)
          have HO6 := Lib.hid (HO.out.kept (row := none) ⟨hB4.os, hB4.tape, hB4.output, hB4.size, fun j hj _ => hB4.block j hj⟩ (by simp [Value.ownBlock]))
          clear HO HRS HO4 HO3
          go_wp2_with (at_builtin; refine wpList_append_fits _ rfl _ _ 32 rfl (w.heap.size + 1) 35 j0 1 Try.underlying32 hj hy1 _ k n _ rfl (HO6.out.alloc _) ⟨wr.heap.size, 0, none⟩ 1 1 [.slice (some ⟨wo.heap.size, 0, none⟩) (L k) (L k)] rfl rfl (cell_one_new _ _ _) (by simp [Value.oneCell']) (by omega) ?_; intro w7 hown7 hgrow7)
          have hC7 : Below w.heap.size w w7 := Below.grown (hC4.alloc hC4.size _) hgrow7 (by have := hC4.size; simp; omega) (fun j hj => by cases hj; omega)
          have HRS7 := Lib.hid (RowsOf.snoc HRS4.out (by simpa using HO6.out.1) HR4.out HO6.out (by decide) hgrow7)
          have HO7 := Lib.hid hown7
          clear hown7 hgrow7 HRS4 HR4 HO6
          go_roundw
          case rel => exact ⟨k + 1, _, by omega, by go_num, rfl, HO7.out, HRS7.out, hC7⟩
          case measure => simp [intOf]; omega
    · obtain rfl : n = k := by omega
      have HM := Lib.hid (mat_of_rows HRS.out HO.out)
      have hlt := (HO.out.lt _ rfl).2
      clear HO HRS
      go_wp2
      go_ret
      exact ⟨w.heap.size + 1, rfl, HM.out, hlt, hB⟩

end Go.Proofs.Ytblcphibkcjmdaa

/-
  The contract of pictures.Draw.
-/
import Derived.Laws.BytesArg
import Derived.Test.YtblcphibkcjmdaaPback
namespace Go.Proofs.Ytblcphibkcjmdaa
open Go.RowKit Go.Shelf

attribute [local go_sem] Oper.semAt_some

/-- The letter of a stitch, the line of a row, the lines of rows. -/
def chI (K Y : Nat → Nat → Int) (i j : Nat) : Int := if K i j = 1 then 48 + Y i j else 96 + Y i j
def rowI (m : Nat) (K Y : Nat → Nat → Int) (i : Nat) : List Int := (List.range m).map (chI K Y i)
def drawnI (L : Nat → Nat) (K Y : Nat → Nat → Int) (l : List Nat) : List Int := l.flatMap fun i => rowI (L i) K Y i ++ [10]
def bytes (l : List Int) : List Value := l.map (Value.int .u8)
theorem rowI_len (m : Nat) (K Y : Nat → Nat → Int) (i : Nat) : (rowI m K Y i).length = m := by simp [rowI]
theorem rowI_succ (m : Nat) (K Y : Nat → Nat → Int) (i : Nat) : rowI (m + 1) K Y i = rowI m K Y i ++ [chI K Y i m] := by simp [rowI, List.range_succ]
theorem drawnI_snoc (L : Nat → Nat) (K Y : Nat → Nat → Int) (l : List Nat) (x : Nat) : drawnI L K Y (l ++ [x]) = drawnI L K Y l ++ rowI (L x) K Y x ++ [10] := by simp [drawnI]
theorem drawnI_len (L : Nat → Nat) (K Y : Nat → Nat → Int) (m : Nat) (h : ∀ i, L i ≤ m) : ∀ l : List Nat, (drawnI L K Y l).length ≤ (m + 1) * l.length
  | [] => by simp [drawnI]
  | x :: l => by
    have h1 := drawnI_len L K Y m h l
    have h2 := h x
    have e : drawnI L K Y (x :: l) = (rowI (L x) K Y x ++ [10]) ++ drawnI L K Y l := by simp [drawnI]
    rw [e, List.length_append, List.length_append, rowI_len, List.length_cons, List.length_cons, List.length_nil, Nat.mul_add]
    omega
theorem bytes_snoc (l : List Int) (x : Int) : bytes (l ++ [x]) = bytes l ++ [.int .u8 x] := by simp [bytes]
theorem bytes_len (l : List Int) : (bytes l).length = l.length := by simp [bytes]

def Lz (n : Nat) (L : Nat → Nat) (i : Nat) : Nat := if i < n then L i else 0
theorem chart_funs {w : World} {b off n : Nat} {L : Nat → Nat} {K Y : Nat → Nat → Int} (h : ChartAt w b off n L K Y) :
    ∃ (A : Nat → Option Addr) (C : Nat → Nat), (∀ i, i < n → L i ≤ C i ∧ w.cell? ⟨b, off + i, none⟩ = some (.slice (A i) (Lz n L i) (C i))) ∧ ∀ i, RowV w (A i) (Lz n L i) (K i) (Y i) := by
  have h2 : ∀ i, ∃ (x : Option Addr × Nat), (i < n → L i ≤ x.2 ∧ w.cell? ⟨b, off + i, none⟩ = some (.slice x.1 (Lz n L i) x.2)) ∧ RowV w x.1 (Lz n L i) (K i) (Y i) := fun i => by
    by_cases hi : i < n
    · obtain ⟨ra, rc, h1, h2, h3⟩ := h i hi
      refine ⟨(ra, rc), ?_⟩
      simp only [Lz, if_pos hi]
      exact ⟨fun _ => ⟨h1, h2⟩, h3⟩
    · exact ⟨(none, 0), fun h => absurd h hi, .inl (by simp [Lz, hi])⟩
  refine ⟨fun i => (Classical.choose (h2 i)).1, fun i => (Classical.choose (h2 i)).2, fun i hi => (Classical.choose_spec (h2 i)).1 hi, fun i => (Classical.choose_spec (h2 i)).2⟩
theorem drawnI_lz (n : Nat) (L : Nat → Nat) (K Y : Nat → Nat → Int) : drawnI (Lz n L) K Y (back n n) = drawnI L K Y (back n n) := by
  have key : ∀ l : List Nat, (∀ i ∈ l, i < n) → drawnI (Lz n L) K Y l = drawnI L K Y l := fun l => by
    induction l with
    | nil => intro _; rfl
    | cons x l ih =>
      intro h
      have h1 := h x (by simp)
      have h2 := ih fun i hi => h i (by simp [hi])
      have e : ∀ L : Nat → Nat, drawnI L K Y (x :: l) = (rowI (L x) K Y x ++ [10]) ++ drawnI L K Y l := fun L => by simp [drawnI]
      rw [e, e, h2]
      simp only [Lz, if_pos h1]
  refine key _ fun i hi => ?_
  obtain ⟨j, hj, rfl⟩ : ∃ j, j < n ∧ n - 1 - j = i := by simpa [back] using hi
  omega

set_option maxRecDepth 20000 in
theorem draw_no (n cap : Nat) (L : Nat → Nat) (K Y : Nat → Nat → Int) (ao : Option Addr) (w : World) (hn : n ≤ 1000000) (hc : ChartV w ao n L K Y) (hs : SimpleChart n L K Y) (hv : ¬ ValidC n L) :
    Calls Try.prog 9 #[.agg #[.slice ao n cap]] w (fun e w' => e = .returned (.string ⟨#[]⟩) ∧ Below w.heap.size w w') := by
  have HL := Lib.hid (plain_no n cap L K Y ao (w.alloc (.cells #[.slice ao n cap] 28)) hn (hc.below ((Below.refl _ w).alloc (Nat.le_refl _) _)) hs hv)
  clear hc hs hv
  go_enter Try.func9, Try.ntmps9
  go_wp2_with fail
  refine (HL.out).mono ?_; rintro e w1 ⟨rfl, hB⟩
  have hBB : Below w.heap.size w w1 := ((Below.refl _ w).alloc (Nat.le_refl _) _).trans (hB.mono (by simp))
  clear hB HL
  go_wp2
  go_ret
  exact ⟨rfl, hBB⟩

def DrawPost (w : World) (n : Nat) (L : Nat → Nat) (K Y : Nat → Nat → Int) (e : Ending) (w' : World) : Prop :=
  e = .returned (.string (strOfNums (drawnI L K Y (back n n)))) ∧ Below w.heap.size w w'

set_option maxRecDepth 100000 in
set_option maxHeartbeats 2000000 in
theorem draw_in (F : Fence) (m : Nat) (hF : F.fn 9) (hFp : F.fn 13) (hFb : F.fn 16) (hFc : F.fn 23) (hro : F.round = none) (hm : 3 ≤ m) (n cap : Nat) (L : Nat → Nat) (K Y : Nat → Nat → Int) (ao : Option Addr) (w : World) (hc : ChartV w ao n L K Y) (hs : SimpleChart n L K Y) (hv : ValidC n L)
    (hP : CallsIn F (m - 1) Try.prog 13 #[.agg #[.slice ao n cap]] (w.alloc (.cells #[.slice ao n cap] 28)) (RetB (.bool true) (w.alloc (.cells #[.slice ao n cap] 28)))) :
    CallsIn F m Try.prog 9 #[.agg #[.slice ao n cap]] w (DrawPost w n L K Y) := by
  have HL := Lib.hid hP
  have HV := Lib.hid hv
  have HS := Lib.hid hs
  rcases hc with h0 | ⟨b, off, rfl, hb, hc⟩
  · have := hv.1
    omega
  have hn := hv.2.1
  obtain ⟨A, C, hA, hR⟩ := chart_funs hc
  have HA := Lib.hid hA
  have HR := Lib.hid hR
  have H16 : Hid (∀ i, Lz n L i ≤ 16) := Lib.hid fun i => by
    unfold Lz
    split
    · rename_i h
      exact (HV.out.2.2.1 i h).2
    · omega
  have h1 : 1 ≤ m := by omega
  clear hc hs hv hA hR hP
  obtain ⟨i0, hi, hz0, hz1, hz2⟩ := info_parts u8_info
  refine callsIn_of_wp_marks Try.func9 rfl hF ?_ hro
  simp only [Try.ntmps9, List.size_toArray, List.length_cons, List.length_nil, Nat.reduceAdd, Nat.reduceSub, Array.replicate_succ, Array.replicate_zero, List.push_toArray, List.append_toArray, List.nil_append, List.cons_append]
  gi_wp2_with (first | (gi_at_call 13; refine (HL.out).mono ?_; rintro e w1 ⟨rfl, hB1⟩; have c1 : w1.cell? ⟨w.heap.size, 0, none⟩ = some (.slice (some ⟨b, off, none⟩) n cap) := (hB1.cell (p := ⟨w.heap.size, 0, none⟩) (by simp)).trans (by simp [go_sem]); have hzz : w.heap.size < w1.heap.size := by have := hB1.size; simp at this; omega) | (gi_at_call 16; refine (backward_in F (m - 1) hFb hro _ _ _ _).mono ?_; rintro e w' ⟨rfl, rfl⟩))
  obtain ⟨B, hBe⟩ : ∃ B, B = w1.heap.size := ⟨_, rfl⟩
  obtain ⟨W0, hW0⟩ : ∃ W0, W0 = ((w1.alloc (.cells #[.slice none 0 0] 22)).alloc (.cells #[.slice (some ⟨b, off, none⟩) n cap] 26)) := ⟨_, rfl⟩
  have hBB1 : Below w.heap.size w w1 := ((Below.refl _ w).alloc (Nat.le_refl _) _).trans (hB1.mono (by simp))
  have hW0z : W0.heap.size = B + 2 := by rw [hW0, hBe]; simp
  have b1 : Boxed W0 B 22 (.slice none 0 0) := by rw [hW0, hBe]; exact (Boxed.new _ _ _).alloc _
  have b2 : Boxed W0 (B + 1) 26 (.slice (some ⟨b, off, none⟩) n cap) := by
    rw [hW0, hBe]
    have := Boxed.new (w1.alloc (.cells #[.slice none 0 0] 22)) 26 (.slice (some ⟨b, off, none⟩) n cap)
    rw [World.size_alloc] at this
    exact this
  have hGB : w.heap.size < B := by omega
  have hBB : Below w.heap.size w W0 := by rw [hW0]; exact (hBB1.alloc (by omega) _).alloc (by simp; omega) _
  rw [← hBe, ← hW0]
  have hbB : b < w.heap.size := hb
  have hcs : ∀ i, i < n → W0.cell? ⟨b, off + i, none⟩ = some (.slice (A i) (Lz n L i) (C i)) := fun i hi => (hBB.cell (p := ⟨b, off + i, none⟩) hb).trans (HA.out i hi).2
  clear hW0 hB1 hBe c1 HL hzz hBB1
  refine wpIn_rangeFunc_ownG hro h1 (gf := 23) (lb := #[.pointer (some ⟨B + 1, 0, none⟩)]) rfl hFc (enters_of Try.func23 (by kernel_rfl) rfl)
    (back_stops F (m - 1) hFc hro (by omega) (B + 1) b off n cap A (Lz n L) C (by omega) W0 (by omega) (by omega) b2.cell hcs)
    Keep2.trans (fun W l o o' hl _ _ _ => ⟨World.putObj_heap_other (by omega), World.putObj_heap_other (by omega)⟩) (Below.refl _ _) (fun _ => rfl)
    (fun pre W => ∃ v, Boxed W B 22 v ∧ W.ownsRow w.heap.size 5 1 v (drawnI (Lz n L) K Y pre).length (bytes (drawnI (Lz n L) K Y pre)) ∧ Boxed W (B + 1) 26 (.slice (some ⟨b, off, none⟩) n cap) ∧ Below w.heap.size w W ∧ W0.heap.size ≤ W.heap.size)
    (fun _ _ _ => False)
    (by
      rintro s X Z row ⟨v, k1, k2, k3, k4, k5⟩ hg hrow
      have hne : v.ownBlock = none ∨ v.ownBlock ≠ row := by
        rcases k2.2 with ⟨rfl, _⟩ | ⟨g, cap, cur, rfl, _, hgb, _⟩
        · exact .inl rfl
        · refine .inr fun e' => ?_
          obtain ⟨_, o, ho, hc⟩ := hrow g (by simpa [Value.ownBlock] using e'.symm)
          rw [hgb] at ho; cases ho; cases hc
      exact ⟨v, k1.kept hg (fun e => by have := (hrow _ e.symm).1; omega), k2.kept hg hne, k3.kept hg (fun e => by have := (hrow _ e.symm).1; omega), k4.grown hg k4.size (fun k e => by have := (hrow k e).1; omega), Nat.le_trans k5 hg.size⟩)
    (fun _ _ _ _ _ hs _ _ => hs)
    ⟨_, b1, ⟨rfl, .inl ⟨rfl, rfl⟩⟩, b2, hBB, Nat.le_refl _⟩
    (fun x => { tmps := #[.agg #[.slice (some ⟨b, off, none⟩) n cap], .pointer (some ⟨w.heap.size, 0, none⟩), .string ⟨#[]⟩, .pointer (some ⟨B, 0, none⟩), undef, .slice (A x) (Lz n L x) (C x), undef, undef, .agg #[.slice (some ⟨b, off, none⟩) n cap], .bool true, .bool false, .pointer (some ⟨w.heap.size, 0, none⟩), .slice (some ⟨b, off, none⟩) n cap, .func (.func 23) #[] #[.pointer (some ⟨B + 1, 0, none⟩)], .int .i64 x, .slice (A x) (Lz n L x) (C x), undef, undef, undef, undef, undef, undef, undef, undef, undef, undef, undef, undef, undef, undef, undef, undef, undef, undef, undef, undef, undef, undef, undef, undef, undef, undef, undef, undef], defers := [] }) ?assign ?body ?done ?stop
  case assign =>
    intro l x W K hK
    simp only [rowEnc]
    gi_wp2
    exact hK
  case body =>
    rintro l pre x W ⟨v, k1, k2, k3, k4, k5⟩ hlt
    have hGW : w.heap.size ≤ W.heap.size := k4.size
    obtain ⟨T, hT⟩ : ∃ T, T = drawnI (Lz n L) K Y pre := ⟨_, rfl⟩
    have hTl : T.length ≤ 600 := by
      have h1 := drawnI_len (Lz n L) K Y 16 H16.out pre
      rw [hT]
      omega
    have hTx := drawnI_snoc (Lz n L) K Y pre x
    rw [← hT] at hTx
    rw [← hT] at k2
    have HTX := Lib.hid hTx
    clear hT hTx
    obtain ⟨lx, hlx⟩ : ∃ lx, lx = Lz n L x := ⟨_, rfl⟩
    have hlx16 : lx ≤ 16 := by rw [hlx]; exact H16.out x
    have HX : Hid (∀ j, j < lx → Simple (K x j) (Y x j)) := Lib.hid fun j hj => by
      have hx : x < n := by
        by_cases h : x < n
        · exact h
        · rw [hlx] at hj
          simp [Lz, h] at hj
      rw [hlx] at hj
      simp only [Lz, if_pos hx] at hj
      exact (HS.out x hx).1 j hj
    have hRx : Hid (RowV w (A x) lx (K x) (Y x)) := Lib.hid (by rw [hlx]; exact HR.out x)
    rw [← hlx] at HTX ⊢
    obtain ⟨ax, hax⟩ : ∃ ax, ax = A x := ⟨_, rfl⟩
    rw [← hax] at hRx ⊢
    clear hax hlx
    have K1 := Lib.hid k1
    have K2 := Lib.hid k2
    have K3 := Lib.hid k3
    clear k1 k2 k3
    gi_wp2
    gi_loopw [18] (fun i wr => ∃ (j : Nat) (v : Value), j ≤ lx ∧ i = .int .i64 j ∧ Boxed wr B 22 v ∧ wr.ownsRow w.heap.size 5 1 v (T.length + j) (bytes (T ++ rowI j K Y x)) ∧ Boxed wr (B + 1) 26 (.slice (some ⟨b, off, none⟩) n cap) ∧ KeepsOthers W wr ∧ Below w.heap.size W wr) (fun i _ => lx - (intOf i).toNat)
    case atStart => exact ⟨0, v, Nat.zero_le _, rfl, K1.out, by simpa [rowI] using K2.out, K3.out, KeepsOthers.refl _, Below.refl _ _⟩
    case round =>
      obtain ⟨j, v, hj, rfl, k1, k2, k3, k6, k7⟩ := hrel
      have hzr := k7.size
      by_cases hjl : j < lx
      · obtain ⟨s1, s2, s3, s4⟩ := HX.out j hjl
        rcases hRx.out with h0 | ⟨bx, ox, rfl, hbx, hrx⟩
        · omega
        obtain ⟨d1, d2, d3, d4, d5⟩ := (hrx.below (k4.trans k7) hbx) j hjl
        have c1 := k1.cell
        have c2 := k1.frozen
        have hBw := k1.lt
        have hrl := rowI_succ j K Y x
        have k1a := k1.alloc (.cells #[.int .u8 (K x j), .int .u8 (Y x j), .int .i64 0, .int .i64 0, .bool false] 38)
        have k2a := k2.alloc (.cells #[.int .u8 (K x j), .int .u8 (Y x j), .int .i64 0, .int .i64 0, .bool false] 38)
        have k3a := k3.alloc (.cells #[.int .u8 (K x j), .int .u8 (Y x j), .int .i64 0, .int .i64 0, .bool false] 38)
        have K1a := Lib.hid k1a
        have K2a := Lib.hid k2a
        have K3a := Lib.hid k3a
        clear k1a k2a k3a k1 k2 k3
        have hk12 : K x j = 1 ∨ K x j = 2 := by omega
        clear s1 s2
        rcases hk12 with hk1 | hk1
        · rw [hk1] at d1 K1a K2a K3a
          have HK := Lib.hid hk1
          clear hk1
          gi_wp2_with (gi_at_builtin; refine wpListIn_append_own _ rfl _ _ 22 rfl w.heap.size 5 i0 (.int .u8 0) 1 1 Try.underlying22 hi hz0 hz1 hz2 rfl (by decide) v (T.length + j) (bytes (T ++ rowI j K Y x)) rfl (K2a.out.alloc _) ⟨wr.heap.size + 1, 0, none⟩ 1 1 [.int .u8 (48 + Y x j)] rfl rfl (one_at2 _ _ _ _) (by simp [Value.oneCell']) (by unfold maxLen; omega) (by omega) (by simp; omega) ?_; intro v2 w3 hown3 hgrow3 hnil; obtain ⟨g, cp, rfl⟩ := ownsRow_succ hown3; have hap := Boxed.appended K1a.out (by decide) K2a.out (by simp; omega) (by omega) hown3 hgrow3; have p1 := hap.1.cell; have p2 := hap.1.frozen; have HAP := Lib.hid hap.2; have HB3 := Lib.hid (((K3a.out.alloc _).kept hgrow3 ((K3a.out.not_row (by decide) K2a.out))).kept (grownBy_setCell' w3 B (.slice (some ⟨g, 0, none⟩) (T.length + j + 1) cp)) (by simp)); clear hown3 hgrow3 hnil hap)
          have e6 : bytes (T ++ rowI j K Y x) ++ [.int .u8 (48 + Y x j)] = bytes (T ++ rowI (j + 1) K Y x) := by
            rw [← bytes_snoc, hrl, List.append_assoc, chI, if_pos HK.out]
          rw [e6] at HAP
          go_roundw
          case rel => exact ⟨j + 1, _, by omega, by go_num, HAP.out.1, by simpa [Nat.add_assoc] using HAP.out.2.1, HB3.out, k6.trans ((KeepsOthers.alloc _ _).trans HAP.out.2.2.1), (k7.alloc (by omega) _).trans (HAP.out.2.2.2)⟩
          case measure => simp [intOf]; omega
        · rw [hk1] at d1 K1a K2a K3a
          have HK := Lib.hid hk1
          clear hk1
          gi_wp2_with (gi_at_builtin; refine wpListIn_append_own _ rfl _ _ 22 rfl w.heap.size 5 i0 (.int .u8 0) 1 1 Try.underlying22 hi hz0 hz1 hz2 rfl (by decide) v (T.length + j) (bytes (T ++ rowI j K Y x)) rfl (K2a.out.alloc _) ⟨wr.heap.size + 1, 0, none⟩ 1 1 [.int .u8 (97 + Y x j - 1)] rfl rfl (one_at2 _ _ _ _) (by simp [Value.oneCell']) (by unfold maxLen; omega) (by omega) (by simp; omega) ?_; intro v2 w3 hown3 hgrow3 hnil; obtain ⟨g, cp, rfl⟩ := ownsRow_succ hown3; have hap := Boxed.appended K1a.out (by decide) K2a.out (by simp; omega) (by omega) hown3 hgrow3; have p1 := hap.1.cell; have p2 := hap.1.frozen; have HAP := Lib.hid hap.2; have HB3 := Lib.hid (((K3a.out.alloc _).kept hgrow3 ((K3a.out.not_row (by decide) K2a.out))).kept (grownBy_setCell' w3 B (.slice (some ⟨g, 0, none⟩) (T.length + j + 1) cp)) (by simp)); clear hown3 hgrow3 hnil hap)
          have e6 : bytes (T ++ rowI j K Y x) ++ [.int .u8 (97 + Y x j - 1)] = bytes (T ++ rowI (j + 1) K Y x) := by
            rw [show 97 + Y x j - 1 = 96 + Y x j by omega]
            rw [← bytes_snoc, hrl, List.append_assoc, chI, if_neg (by rw [HK.out]; decide)]
          rw [e6] at HAP
          go_roundw
          case rel => exact ⟨j + 1, _, by omega, by go_num, HAP.out.1, by simpa [Nat.add_assoc] using HAP.out.2.1, HB3.out, k6.trans ((KeepsOthers.alloc _ _).trans HAP.out.2.2.1), (k7.alloc (by omega) _).trans (HAP.out.2.2.2)⟩
          case measure => simp [intOf]; omega
      · obtain rfl : lx = j := by omega
        have c1 := k1.cell
        have c2 := k1.frozen
        have hBw := k1.lt
        have K1a := Lib.hid k1
        have K2a := Lib.hid k2
        have K3a := Lib.hid k3
        clear k1 k2 k3
        gi_wp2_with (gi_at_builtin; refine wpListIn_append_own _ rfl _ _ 22 rfl w.heap.size 5 i0 (.int .u8 0) 1 1 Try.underlying22 hi hz0 hz1 hz2 rfl (by decide) v (T.length + lx) (bytes (T ++ rowI lx K Y x)) rfl (K2a.out.alloc _) ⟨wr.heap.size, 0, none⟩ 1 1 [.int .u8 10] rfl rfl (cell_one_new _ _ _) (by simp [Value.oneCell']) (by unfold maxLen; omega) (by omega) (by simp; omega) ?_; intro v2 w3 hown3 hgrow3 hnil; obtain ⟨g, cp, rfl⟩ := ownsRow_succ hown3; have hap := Boxed.appended K1a.out (by decide) K2a.out (by omega) (by omega) hown3 hgrow3; have p1 := hap.1.cell; have p2 := hap.1.frozen; have HAP := Lib.hid hap.2; have HB3 := Lib.hid (((K3a.out.alloc _).kept hgrow3 ((K3a.out.not_row (by decide) K2a.out))).kept (grownBy_setCell' w3 B (.slice (some ⟨g, 0, none⟩) (T.length + lx + 1) cp)) (by simp)); clear hown3 hgrow3 hnil hap)
        have hB4 : Below w.heap.size W _ := k7.trans HAP.out.2.2.2
        have e6 : bytes (T ++ rowI lx K Y x) ++ [.int .u8 10] = bytes (drawnI (Lz n L) K Y (pre ++ [x])) := by
          rw [← bytes_snoc, HTX.out]
        have e7 : (drawnI (Lz n L) K Y (pre ++ [x])).length = T.length + lx + 1 := by
          rw [HTX.out, List.length_append, List.length_append, rowI_len]
          rfl
        rw [e6] at HAP
        refine ⟨(k6.trans HAP.out.2.2.1).from _, ⟨?_, hB4.block b hbB⟩, _, HAP.out.1, by rw [e7]; exact HAP.out.2.1, HB3.out, k4.trans hB4, Nat.le_trans k5 (hB4.size)⟩
        rw [show _ = _ from HB3.out, show _ = _ from K3.out]
  case done =>
    rintro D ys W hD rfl ⟨v, k1, k2, k3, k4, k5⟩ hK
    rw [drawnI_lz] at k2
    have hz : n ≠ 0 := by
      have := HV.out.1
      omega
    obtain ⟨T, hT⟩ : ∃ T, drawnI L K Y (back n n) = T := ⟨_, rfl⟩
    have hT1 : T.length ≠ 0 := by
      obtain ⟨k, rfl⟩ : ∃ k, n = k + 1 := ⟨n - 1, by omega⟩
      rw [← hT, back_succ, drawnI_snoc]
      simp
    rw [hT] at k2
    rcases k2.2 with ⟨_, h0⟩ | ⟨g, cp, cur, rfl, hg, hgb, _⟩
    · omega
    have hcv := run_convert_bytes_arg (P := Try.prog) W 22 5 Try.underlying22 (by kernel_rfl) g 0 T.length cp T rfl (fun i hi => by
      have := k2.cells rfl i (.int .u8 (T.getD i 0)) (by simp [bytes, hi])
      rw [add_zero_addr] at this
      rw [Nat.zero_add]
      exact this) 9 (by kernel_rfl)
    have c1 := k1.cell
    clear k2 hgb
    gi_wp2
    refine ⟨by simp, .inl ⟨_, _, rfl, run_takeDeferred hK, ?_⟩⟩
    refine ⟨_, results_tmp rfl _ _ _, by rw [hT]; rfl, k4.trans (belowK_b (w := w) (Nat.le_refl _) W D _ _ (by omega) hK rfl rfl)⟩
  case stop =>
    rintro D c pre W _ _ h _
    exact h.elim

theorem draw_yes (n cap : Nat) (L : Nat → Nat) (K Y : Nat → Nat → Int) (ao : Option Addr) (w : World) (hc : ChartV w ao n L K Y) (hs : SimpleChart n L K Y) (hv : ValidC n L) :
    Calls Try.prog 9 #[.agg #[.slice ao n cap]] w (DrawPost w n L K Y) :=
  (callsIn_wide (n := 3)).1 (draw_in Fence.wide 3 trivial trivial trivial trivial rfl (Nat.le_refl _) n cap L K Y ao w hc hs hv ((callsIn_wide (n := 3 - 1)).2 (plain_yes n cap L K Y ao _ (hc.below ((Below.refl _ w).alloc (Nat.le_refl _) _)) hs hv)))

end Go.Proofs.Ytblcphibkcjmdaa

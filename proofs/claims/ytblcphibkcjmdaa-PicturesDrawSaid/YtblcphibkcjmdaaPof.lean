/-
  (ganseylaw39.C).Of.
-/
import Derived.Test.YtblcphibkcjmdaaPlives
import Derived.Test.YtblcphibkcjmdaaPtext
namespace Go.Proofs.Ytblcphibkcjmdaa
open Go.RowKit

/-- The stitch number t of the chart that plain data tell. -/
def ofS (len : Nat) (B : Nat → Nat) (t : Nat) : Int × Int :=
  if len = 0 then (1, 1) else (if B (t % len) % 2 = 1 then 2 else 1, ((1 + B (t % len) / 2 % 4 : Nat) : Int))
def ofRow (len m : Nat) (B : Nat → Nat) (i k : Nat) : List (Int × Int) := (List.range k).map fun j => ofS len B (i * m + j)
def ofRows (len m : Nat) (B : Nat → Nat) (n : Nat) : List (List (Int × Int)) := (List.range n).map fun i => ofRow len m B i m
theorem ofRow_succ (len m : Nat) (B : Nat → Nat) (i k : Nat) : ofRow len m B i (k + 1) = ofRow len m B i k ++ [ofS len B (i * m + k)] := by simp [ofRow, List.range_succ]
theorem ofRows_succ (len m : Nat) (B : Nat → Nat) (n : Nat) : ofRows len m B (n + 1) = ofRows len m B n ++ [ofRow len m B n m] := by simp [ofRows, List.range_succ]
theorem ofRow_len (len m : Nat) (B : Nat → Nat) (i k : Nat) : (ofRow len m B i k).length = k := by simp [ofRow]
theorem ofRows_len (len m : Nat) (B : Nat → Nat) (n : Nat) : (ofRows len m B n).length = n := by simp [ofRows]
theorem ofS_simple (len : Nat) (B : Nat → Nat) (t : Nat) : Simple (ofS len B t).1 (ofS len B t).2 := by
  unfold ofS Simple
  split
  · simp
  · refine ⟨?_, ?_, ?_, ?_⟩ <;> simp only <;> first | (split <;> omega) | omega

/-- The counter: it stands still where there are no bytes. -/
def ctrOf (len t : Nat) : Nat := if len = 0 then 0 else t
theorem ctrOf_le (len t : Nat) : ctrOf len t ≤ t := by unfold ctrOf; split <;> omega

/-- Bytes at a block, or none. -/
def BytesV (w : World) (ao : Option Addr) (len : Nat) (B : Nat → Nat) : Prop := len = 0 ∨ ∃ b off, ao = some ⟨b, off, none⟩ ∧ b < w.heap.size ∧ ∀ t, t < len → w.cell? ⟨b, off + t, none⟩ = some (.int .u8 (B t))

theorem RMem.alloc {z : Nat} {ST ET CT : TypeId} {R : List (List (Int × Int))} {q : List (Int × Int)} {v u : Value} {xs : List Value} {w : World} (h : RMem z ST ET CT R q v u xs w) (o : Obj) : RMem z ST ET CT R q v u xs (w.alloc o) :=
  h.keep fun k o2 hk _ => (Below.heap_alloc w o k (Array.getElem?_eq_some_iff.1 hk).1).trans hk
theorem RMem.setNew {z : Nat} {ST ET CT : TypeId} {R : List (List (Int × Int))} {q : List (Int × Int)} {v u : Value} {xs : List Value} {w w0 : World} (h : RMem z ST ET CT R q v u xs w) (hk : ∀ k, k < w.heap.size → w0.heap[k]? = w.heap[k]?) : RMem z ST ET CT R q v u xs w0 :=
  h.keep fun k o2 h2 _ => (hk k (Array.getElem?_eq_some_iff.1 h2).1).trans h2

theorem w2_heap (w : World) (nq : Nat) (O : Obj) (x : Value) (k : Nat) (hk : k < w.heap.size) : (((w.alloc O).drewN nq).setCell ⟨w.heap.size, 1, none⟩ x).heap[k]? = w.heap[k]? :=
  (Below.heap_setCell _ _ _ k (by show k ≠ w.heap.size; omega)).trans (Below.heap_alloc w O k hk)
theorem w2_size (w : World) (nq : Nat) (O : Obj) (x : Value) : (((w.alloc O).drewN nq).setCell ⟨w.heap.size, 1, none⟩ x).heap.size = w.heap.size + 1 := by simp
theorem w2_below {z : Nat} {W0 w : World} (hB : Below z W0 w) (hz : z ≤ w.heap.size) (nq : Nat) (O : Obj) (x : Value) : Below z W0 (((w.alloc O).drewN nq).setCell ⟨w.heap.size, 1, none⟩ x) :=
  (below_drewN' (hB.alloc hz O) nq).setCell (p := ⟨w.heap.size, 1, none⟩) hz x
theorem w3_heap (w : World) (nq : Nat) (O : Obj) (x y : Value) (k : Nat) (hk : k < w.heap.size) : ((((w.alloc O).drewN nq).setCell ⟨w.heap.size, 1, none⟩ x).setCell ⟨w.heap.size, 0, none⟩ y).heap[k]? = w.heap[k]? :=
  (Below.heap_setCell _ _ _ k (by show k ≠ w.heap.size; omega)).trans (w2_heap w nq O x k hk)
theorem w3_size (w : World) (nq : Nat) (O : Obj) (x y : Value) : ((((w.alloc O).drewN nq).setCell ⟨w.heap.size, 1, none⟩ x).setCell ⟨w.heap.size, 0, none⟩ y).heap.size = w.heap.size + 1 := by simp
theorem w3_below {z : Nat} {W0 w : World} (hB : Below z W0 w) (hz : z ≤ w.heap.size) (nq : Nat) (O : Obj) (x y : Value) : Below z W0 ((((w.alloc O).drewN nq).setCell ⟨w.heap.size, 1, none⟩ x).setCell ⟨w.heap.size, 0, none⟩ y) :=
  (w2_below hB hz nq O x).setCell (p := ⟨w.heap.size, 0, none⟩) hz y
theorem five_at {W : World} {n : Nat} (hn : W.heap.size = n) (k y : Int) (T : TypeId) : ∀ j u, (stC (k, y))[j]? = some u → (W.alloc (.cells #[.int .u8 k, .int .u8 y, .int .i64 0, .int .i64 0, .bool false] T)).cell? ((⟨n, 0, none⟩ : Addr).add j) = some u := by
  subst hn; exact five_new W k y T

def OfPost (n m len : Nat) (B : Nat → Nat) (w : World) (e : Ending) (w' : World) : Prop :=
  ∃ v xs, e = .returned (.agg #[v]) ∧ w'.ownsRow (w.heap.size + 1) 34 1 v n xs ∧ RowsDone w' 38 (ofRows len m B n) (.slice none 0 0) xs ∧ Below w.heap.size w w'

set_option maxRecDepth 1000000 in
set_option maxHeartbeats 4000000 in
theorem of_any (Wd Hg : Nat) (hW : Wd < 256) (hH : Hg < 256) (ao : Option Addr) (len cap : Nat) (B : Nat → Nat) (w : World) (hlen : len ≤ 9223372036854775807) (hb : BytesV w ao len B) (hB8 : ∀ t, B t < 256) :
    Calls Try.prog 5 #[.agg #[.int .u8 Wd, .int .u8 Hg, .slice ao len cap]] w (OfPost (1 + 2 * (Hg % 5)) (1 + Wd % 8) len B w) := by
  obtain ⟨i0, hi, hz0', hz1, hz2⟩ := info_parts st_info
  obtain ⟨j0, hj, hy0, hy1, hy2⟩ := info_parts sts_info
  have HBV := Lib.hid hb
  have HB8 := Lib.hid hB8
  clear hb hB8
  obtain ⟨m, hm⟩ : ∃ m, 1 + Wd % 8 = m := ⟨_, rfl⟩
  obtain ⟨n, hn⟩ : ∃ n, 1 + 2 * (Hg % 5) = n := ⟨_, rfl⟩
  have hm8 : 1 ≤ m ∧ m ≤ 8 := by omega
  have hn9 : 1 ≤ n ∧ n ≤ 9 := by omega
  rw [hm, hn]
  go_enter Try.func5, Try.ntmps5
  go_wp2
  obtain ⟨W0, hW0⟩ : ∃ W0, w.alloc (.cells #[.int .u8 Wd, .int .u8 Hg, .slice ao len cap] 24) = W0 := ⟨_, rfl⟩
  have hz0 : W0.heap.size = w.heap.size + 1 := by rw [← hW0]; simp
  have hbox : Row W0 w.heap.size 24 [.int .u8 Wd, .int .u8 Hg, .slice ao len cap] := by rw [← hW0]; exact Row.new w _ _
  have hBW : Below w.heap.size w W0 := by rw [← hW0]; exact (Below.refl _ w).alloc (Nat.le_refl _) _
  rw [hW0]
  obtain ⟨z, hz⟩ : ∃ z, w.heap.size + 1 = z := ⟨_, rfl⟩
  have hM0 : RMem z 38 34 28 (ofRows len m B 0) [] (.slice none 0 0) (.slice none 0 0) [] ((W0.alloc (.cells #[.slice none 0 0] 28)).alloc (.cells #[.slice none 0 0] 28)) := by
    rw [← hz, ← hz0]
    refine ⟨?_, ⟨rfl, .inl ⟨rfl, rfl⟩⟩, ⟨rfl, .inl ⟨rfl, rfl⟩⟩, RowsDone.nil _ _ _, ?_⟩
    · have := Boxed.new (W0.alloc (.cells #[.slice none 0 0] 28)) 28 (.slice none 0 0)
      rw [World.size_alloc] at this
      exact this
    · exact (Boxed.new W0 28 (.slice none 0 0)).alloc _
  have hB0 : Below z W0 ((W0.alloc (.cells #[.slice none 0 0] 28)).alloc (.cells #[.slice none 0 0] 28)) := by
    rw [← hz, ← hz0]
    exact ((Below.refl _ W0).alloc (Nat.le_refl _) _).alloc (by simp) _
  rw [hz]
  clear hW0
  go_loopw [4, 5] (fun c s wr => ∃ (i : Nat) (v : Value) (xs : List Value), i ≤ n ∧ c = .int .i64 (ctrOf len (i * m)) ∧ s = .int .i64 i ∧ RMem z 38 34 28 (ofRows len m B i) [] v (.slice none 0 0) xs wr ∧ Below z W0 wr) (fun _ s _ => n - (intOf s).toNat)
  case atStart => exact ⟨0, _, [], Nat.zero_le _, by simp [ctrOf], rfl, hM0, hB0⟩
  case round =>
    obtain ⟨i, v, xs, hin, rfl, rfl, hM, hB⟩ := hrel
    have q1 := (hB.cell (p := ⟨w.heap.size, 0, none⟩) (by show w.heap.size < z; omega)).trans (hbox.cell (i := 0) rfl)
    have q2 := (hB.cell (p := ⟨w.heap.size, 1, none⟩) (by show w.heap.size < z; omega)).trans (hbox.cell (i := 1) rfl)
    have q3 := (hB.cell (p := ⟨w.heap.size, 2, none⟩) (by show w.heap.size < z; omega)).trans (hbox.cell (i := 2) rfl)
    have HM := Lib.hid hM
    clear hM
    by_cases hi2 : i < n
    · have hdi : decide ((i : Int) < 1 + 2 * ((Hg : Int) % 5)) = true := by simp; omega
      go_wp2_with fail
      obtain ⟨wo, rfl⟩ : ∃ wo : World, wo = wr := ⟨_, rfl⟩
      go_loopw [4, 6, 7] (fun c u s wr => ∃ k : Nat, k ≤ m ∧ c = .int .i64 (ctrOf len (i * m + k)) ∧ s = .int .i64 k ∧ RMem z 38 34 28 (ofRows len m B i) (ofRow len m B i k) v u xs wr ∧ Below z W0 wr) (fun _ _ s _ => m - (intOf s).toNat)
      case atStart => exact ⟨0, Nat.zero_le _, rfl, rfl, HM.out, hB⟩
      case round =>
        obtain ⟨k, hkm, rfl, rfl, hM2, hB2⟩ := hrel
        have q1 := (hB2.cell (p := ⟨w.heap.size, 0, none⟩) (by show w.heap.size < z; omega)).trans (hbox.cell (i := 0) rfl)
        have q2 := (hB2.cell (p := ⟨w.heap.size, 1, none⟩) (by show w.heap.size < z; omega)).trans (hbox.cell (i := 1) rfl)
        have q3 := (hB2.cell (p := ⟨w.heap.size, 2, none⟩) (by show w.heap.size < z; omega)).trans (hbox.cell (i := 2) rfl)
        have HM2 := Lib.hid hM2
        have hzr : z + 1 < wr.heap.size := hM2.box.lt
        have hzw : w.heap.size < wr.heap.size := by omega
        have c1 := hM2.box.cell
        clear hM2
        by_cases hk2 : k < m
        · by_cases hl0 : len = 0
          · subst hl0
            have HM3 := Lib.hid (HM2.out.alloc (.cells #[.int .u8 1, .int .u8 1, .int .i64 0, .int .i64 0, .bool false] 38))
            have hql : (ofRow 0 m B i k).length ≤ 8 := by rw [ofRow_len]; omega
            go_wp2_with (at_builtin; refine wpList_append_own_at _ rfl _ _ 34 rfl z 38 i0 (.agg #[.int .u8 0, .int .u8 0, .int .i64 0, .int .i64 0, .bool false]) 5 32 Try.underlying34 hi hz0' hz1 hz2 rfl (by decide) _ _ _ rfl (HM3.out.row.alloc _) ⟨wr.heap.size + 1, 0, none⟩ 1 1 (stC (1, 1)) rfl rfl (by have := five_new (wr.alloc (.cells #[.int .u8 1, .int .u8 1, .int .i64 0, .int .i64 0, .bool false] 38)) 1 1 38; rwa [World.size_alloc] at this) (by simp [stC, Value.oneCell']) (by unfold maxLen; omega) (by omega) (by simp; omega) ?_; intro u2 w3 hown3 hgrow3 hnil hblk; have HM4 := Lib.hid (HM3.out.more (p := (1, 1)) hgrow3 hown3 hblk (by decide) (by decide)); have hB3 := Lib.hid (Below.grown (((hB2.alloc (by omega) _).alloc (by simp; omega) _)) hgrow3 (by simp; omega) (fun k hk => (HM2.out.row.lt k hk).1)); clear hown3 hgrow3 hnil hblk HM2 HM3)
            go_roundw
            case rel => exact ⟨k + 1, by omega, rfl, by go_num, by rw [ofRow_succ]; exact HM4.out, hB3.out⟩
            case measure => simp [intOf]; omega
          · obtain ⟨b, off, hao, hblt, hcs⟩ := HBV.out.resolve_left hl0
            rw [hao] at q3
            obtain ⟨t, ht⟩ : ∃ t, ctrOf len (i * m + k) = t := ⟨_, rfl⟩
            have ht2 : t = i * m + k := by rw [← ht]; simp [ctrOf, hl0]
            have htb : t ≤ 100 := by
              have := Nat.mul_le_mul hin hm8.2
              omega
            rw [ht]
            obtain ⟨r, hr⟩ : ∃ r, t % len = r := ⟨_, rfl⟩
            have hrl : r < len := by rw [← hr]; exact Nat.mod_lt _ (by omega)
            have hrI : (t : Int) % (len : Int) = (r : Int) := by rw [← hr]; simp
            obtain ⟨y, hy⟩ : ∃ y, B r = y := ⟨_, rfl⟩
            have hy8 : y < 256 := by rw [← hy]; exact HB8.out r
            have c2 := ((hB2.cell (p := ⟨b, off + r, none⟩) (by show b < z; omega)).trans (hBW.cell (p := ⟨b, off + r, none⟩) hblt)).trans (hcs r hrl)
            rw [hy] at c2
            have hbw : b < wr.heap.size := by omega
            have hlp : (0 : Int) < len := by omega
            have HTS : Hid (ofS len B t = (if y % 2 = 1 then 2 else 1, ((1 + y / 2 % 4 : Nat) : Int))) := Lib.hid (by unfold ofS; rw [if_neg hl0, hr, hy])
            have HT2 := Lib.hid ht2
            have HCT : Hid (ctrOf len (i * m + (k + 1)) = t + 1) := Lib.hid (by unfold ctrOf; rw [if_neg hl0]; omega)
            have HAO := Lib.hid hao
            clear ht hr hy ht2 hcs hao
            by_cases hodd : y % 2 = 1
            ·
              have HTS2 : Hid (ofS len B t = (2, 1 + (y : Int) / 2 % 4)) := Lib.hid (by rw [HTS.out, if_pos hodd]; congr 1)
              have f1 : (((y : Int) % 2) == 1) = true := by simp; omega
              have HM3 := Lib.hid (fun nq : Nat => HM2.out.setNew (w0 := ((((wr.alloc (.cells #[.int .u8 1, .int .u8 1, .int .i64 0, .int .i64 0, .bool false] 38)).drewN nq).setCell ⟨wr.heap.size, 1, none⟩ (.int .u8 (1 + (y : Int) / 2 % 4))).setCell ⟨wr.heap.size, 0, none⟩ (.int .u8 2))) (w3_heap wr nq (.cells #[.int .u8 1, .int .u8 1, .int .i64 0, .int .i64 0, .bool false] 38) (.int .u8 (1 + (y : Int) / 2 % 4)) (.int .u8 2)))
              have HB3 := Lib.hid (fun nq : Nat => w3_below hB2 (by omega : z ≤ wr.heap.size) nq (.cells #[.int .u8 1, .int .u8 1, .int .i64 0, .int .i64 0, .bool false] 38) (.int .u8 (1 + (y : Int) / 2 % 4)) (.int .u8 2))
              have hql : (ofRow len m B i k).length ≤ 8 := by rw [ofRow_len]; omega
              go_wp2_with fail
              go_quiet (fail)
              go_wp2_with (at_builtin; refine wpList_append_own_at _ rfl _ _ 34 rfl z 38 i0 (.agg #[.int .u8 0, .int .u8 0, .int .i64 0, .int .i64 0, .bool false]) 5 32 Try.underlying34 hi hz0' hz1 hz2 rfl (by decide) _ _ _ rfl ((HM3.out nq).row.alloc _) ⟨wr.heap.size + 1, 0, none⟩ 1 1 (stC (2, 1 + (y : Int) / 2 % 4)) rfl rfl (five_at (w3_size wr nq (.cells #[.int .u8 1, .int .u8 1, .int .i64 0, .int .i64 0, .bool false] 38) (.int .u8 (1 + (y : Int) / 2 % 4)) (.int .u8 2)) 2 (1 + (y : Int) / 2 % 4) 38) (by simp [stC, Value.oneCell']) (by unfold maxLen; omega) (by omega) (by simp; omega) ?_; intro u2 w3 hown3 hgrow3 hnil hblk; have HM4 := Lib.hid ((HM3.out nq).more (p := (2, 1 + (y : Int) / 2 % 4)) hgrow3 hown3 hblk (by decide) (by decide)); have hB3 := Lib.hid (Below.grown (((HB3.out nq).alloc (by rw [w3_size]; omega) _)) hgrow3 (by simp; omega) (fun k hk => ((HM3.out nq).row.lt k hk).1)); clear hown3 hgrow3 hnil hblk HM2 HM3 HB3)
              go_roundw
              case rel => exact ⟨k + 1, by omega, by rw [HCT.out]; go_num, by go_num, by rw [ofRow_succ, ← HT2.out, HTS2.out]; exact HM4.out, hB3.out⟩
              case measure => simp [intOf]; omega
            ·
              have HTS2 : Hid (ofS len B t = (1, 1 + (y : Int) / 2 % 4)) := Lib.hid (by rw [HTS.out, if_neg hodd]; congr 1)
              have f1 : (((y : Int) % 2) == 1) = false := by simp; omega
              have HM3 := Lib.hid (fun nq : Nat => HM2.out.setNew (w0 := (((wr.alloc (.cells #[.int .u8 1, .int .u8 1, .int .i64 0, .int .i64 0, .bool false] 38)).drewN nq).setCell ⟨wr.heap.size, 1, none⟩ (.int .u8 (1 + (y : Int) / 2 % 4)))) (w2_heap wr nq (.cells #[.int .u8 1, .int .u8 1, .int .i64 0, .int .i64 0, .bool false] 38) (.int .u8 (1 + (y : Int) / 2 % 4))))
              have HB3 := Lib.hid (fun nq : Nat => w2_below hB2 (by omega : z ≤ wr.heap.size) nq (.cells #[.int .u8 1, .int .u8 1, .int .i64 0, .int .i64 0, .bool false] 38) (.int .u8 (1 + (y : Int) / 2 % 4)))
              have hql : (ofRow len m B i k).length ≤ 8 := by rw [ofRow_len]; omega
              go_wp2_with fail
              go_quiet (fail)
              go_wp2_with (at_builtin; refine wpList_append_own_at _ rfl _ _ 34 rfl z 38 i0 (.agg #[.int .u8 0, .int .u8 0, .int .i64 0, .int .i64 0, .bool false]) 5 32 Try.underlying34 hi hz0' hz1 hz2 rfl (by decide) _ _ _ rfl ((HM3.out nq).row.alloc _) ⟨wr.heap.size + 1, 0, none⟩ 1 1 (stC (1, 1 + (y : Int) / 2 % 4)) rfl rfl (five_at (w2_size wr nq (.cells #[.int .u8 1, .int .u8 1, .int .i64 0, .int .i64 0, .bool false] 38) (.int .u8 (1 + (y : Int) / 2 % 4))) 1 (1 + (y : Int) / 2 % 4) 38) (by simp [stC, Value.oneCell']) (by unfold maxLen; omega) (by omega) (by simp; omega) ?_; intro u2 w3 hown3 hgrow3 hnil hblk; have HM4 := Lib.hid ((HM3.out nq).more (p := (1, 1 + (y : Int) / 2 % 4)) hgrow3 hown3 hblk (by decide) (by decide)); have hB3 := Lib.hid (Below.grown (((HB3.out nq).alloc (by rw [w2_size]; omega) _)) hgrow3 (by simp; omega) (fun k hk => ((HM3.out nq).row.lt k hk).1)); clear hown3 hgrow3 hnil hblk HM2 HM3 HB3)
              go_roundw
              case rel => exact ⟨k + 1, by omega, by rw [HCT.out]; go_num, by go_num, by rw [ofRow_succ, ← HT2.out, HTS2.out]; exact HM4.out, hB3.out⟩
              case measure => simp [intOf]; omega
        · obtain rfl : k = m := by omega
          obtain ⟨ao2, ul, uc, rfl⟩ : ∃ ao l c, u6 = Value.slice ao l c := by
            rcases HM2.out.row.2 with ⟨h, _⟩ | ⟨g, cap, cur, h, _⟩
            · exact ⟨_, _, _, h⟩
            · exact ⟨_, _, _, h⟩
          have hrl : (ofRows len k B i).length ≤ 9 := by rw [ofRows_len]; omega
          go_wp2_with (at_builtin; refine wpList_append_own_at _ rfl _ _ 26 rfl z 34 j0 (.slice none 0 0) 1 24 Try.underlying26 hj hy0 hy1 hy2 rfl (by decide) _ _ _ rfl (HM2.out.rows.alloc _) ⟨wr.heap.size, 0, none⟩ 1 1 [.slice ao2 ul uc] rfl rfl (cell_one_new _ _ _) (by simp [Value.oneCell']) (by unfold maxLen; omega) (by omega) (by simp; omega) ?_; intro v2 w3 hown3 hgrow3 hnil hblk; obtain ⟨g2, cp, rfl⟩ := ownsRow_succ hown3; have hln := HM2.out.line (by omega) hgrow3 hown3 (by decide) (by decide) (by decide); have p1 := hln.1.cell; have p2 := hln.1.frozen; have HM3 := Lib.hid hln.2; have hB3 := Lib.hid ((Below.grown (hB2.alloc (by omega) _) hgrow3 (by simp; omega) (fun k hk => (HM2.out.rows.lt k hk).1)).setCell (p := ⟨z + 1, 0, none⟩) (Nat.le_succ _) (.slice (some ⟨g2, 0, none⟩) ((ofRows len k B i).length + 1) cp)); clear hown3 hgrow3 hnil hblk HM2 hln)
          go_roundw
          case rel => exact ⟨i + 1, _, _, by omega, by rw [Nat.succ_mul], by go_num, by rw [ofRows_succ]; exact HM3.out, hB3.out⟩
          case measure => simp [intOf]; omega
    · have hdi : decide ((i : Int) < 1 + 2 * ((Hg : Int) % 5)) = false := by simp; omega
      have hin2 : i = n := by omega
      have HIN := Lib.hid hin2
      obtain ⟨ao2, ul, uc, rfl⟩ : ∃ ao l c, v = Value.slice ao l c := by
        rcases HM.out.rows.2 with ⟨h, _⟩ | ⟨g, cap, cur, h, _⟩
        · exact ⟨_, _, _, h⟩
        · exact ⟨_, _, _, h⟩
      have c1 := HM.out.box.cell
      have d1 := HM.out.res.cell
      have d2 := HM.out.res.frozen
      have HBF := Lib.hid hB
      have hzr : z + 1 < wr.heap.size := HM.out.box.lt
      clear hin2 hB
      go_wp2_with fail
      refine bodyPost_ret (v := .agg #[.slice ao2 ul uc]) (results_cell_row rfl _ _ z 28 #[.slice ao2 ul uc] _ _ rfl (Boxed.set (.slice ao2 ul uc) HM.out.res) Try.underlying28 rfl (by kernel_rfl)) rfl ?_
      have hi2 := HIN.out
      subst hi2
      have hT : ∀ (k : Nat) (cs : Array Value) (t : TypeId), t ≠ 28 → wr.heap[k]? = some (.cells cs t (0, 0)) → (wr.setCell ⟨z, 0, none⟩ (.slice ao2 ul uc)).heap[k]? = wr.heap[k]? := fun k cs t ht hk => by
        refine Below.heap_setCell _ _ _ k ?_
        show k ≠ z
        rintro rfl
        have h1 := HM.out.res
        unfold Boxed at h1
        rw [hk] at h1
        simp at h1
        exact ht h1.2
      refine ⟨.slice ao2 ul uc, xs, rfl, ?_, ?_, ?_⟩
      · rw [hz]
        have h1 := HM.out.rows
        rw [ofRows_len] at h1
        refine owns_same h1 fun g hg => ?_
        obtain ⟨cs, hc⟩ := owns_cells h1 g hg
        exact hT g cs _ (by decide) hc
      · refine HM.out.done.mono fun b r hb hu => ⟨hb.same ?_, hu⟩
        have hb2 := hb
        obtain ⟨cs, hc, _⟩ := hb2
        exact hT b cs _ (by decide) hc
      · exact (hBW.trans (HBF.out.mono (by omega))).setCell (p := ⟨z, 0, none⟩) (by show w.heap.size ≤ z; omega) _

end Go.Proofs.Ytblcphibkcjmdaa

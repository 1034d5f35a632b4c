/-
  The contract of pictures.Read.
-/
import Derived.Test.YtblcphibkcjmdaaPrend
namespace Go.Proofs.Ytblcphibkcjmdaa
open Go.RowKit

theorem st_info : (Try.prog.info? 38).map (fun i => (i.zero, i.size, i.bytes)) = some (some (.agg #[.int .u8 0, .int .u8 0, .int .i64 0, .int .i64 0, .bool false]), 5, 32) := by kernel_rfl
theorem sts_info : (Try.prog.info? 34).map (fun i => (i.zero, i.size, i.bytes)) = some (some (.slice none 0 0), 1, 24) := by kernel_rfl

def ReadOk (l : List Int) (R : List (List (Int × Int))) : Prop := runs l ([], []) = some (R, []) ∧ ValidC R.length (Lr R)
def ReadPost (s : ByteArray) (w : World) (e : Ending) (w' : World) : Prop :=
  ((∃ R g, ReadOk (bI s) R ∧ e = .returned (.tuple #[.agg #[.slice (some ⟨g, 0, none⟩) R.length R.length], .int .i64 0]) ∧ ChartV w' (some ⟨g, 0, none⟩) R.length (Lr R) (Kr R) (Yr R) ∧ SimpleChart R.length (Lr R) (Kr R) (Yr R)) ∨
   ((¬ ∃ R, ReadOk (bI s) R) ∧ e = .returned (.tuple #[.agg #[.slice none 0 0], .int .i64 4]))) ∧ Below w.heap.size w w'

theorem five_new (w : World) (k y : Int) (T : TypeId) : ∀ j u, (stC (k, y))[j]? = some u → (w.alloc (.cells #[.int .u8 k, .int .u8 y, .int .i64 0, .int .i64 0, .bool false] T)).cell? ((⟨w.heap.size, 0, none⟩ : Addr).add j) = some u := by
  intro j u hj
  rw [add_zero_addr]
  exact (Row.new w T (stC (k, y))).cell hj

theorem results_cr {fn : Func} {p u : Tmp} {ty : TypeId} (h : fn.results = #[.cell p ty, .tmp u]) (tmps : Array Value) (P : Program) (w : World) (g : Nat) (cs : Array Value)
    {v2 : Value} (hp : tmps.getD p undef = .pointer (some ⟨g, 0, none⟩)) (h2 : tmps.getD u undef = v2) (hl : (loadVar ty ⟨g, 0, none⟩).run P w = .ok (.agg cs) w) :
    (results fn tmps).run P w = .ok (.tuple #[.agg cs, v2]) w := by
  rw [results_cell_tmp h, hp, h2]
  simp [asAddr, hl, Sem.run_pure, Result.andThen]

theorem bad_step {s : ByteArray} {pos : Nat} {R : List (List (Int × Int))} {q : List (Int × Int)} (hp : pos < s.size) (hr : runs ((bI s).drop pos) (R, q) = runs (bI s) ([], [])) (h : pstep (R, q) ((s[pos]'hp).toNat : Int) = none) : ¬ ∃ R, ReadOk (bI s) R := by
  rintro ⟨R2, h2, _⟩
  rw [← hr, bI_drop s pos hp, runs, h] at h2
  cases h2
theorem good_step {s : ByteArray} {pos : Nat} {R R2 : List (List (Int × Int))} {q q2 : List (Int × Int)} (hp : pos < s.size) (hr : runs ((bI s).drop pos) (R, q) = runs (bI s) ([], [])) (h : pstep (R, q) ((s[pos]'hp).toNat : Int) = some (R2, q2)) : runs ((bI s).drop (pos + 1)) (R2, q2) = runs (bI s) ([], []) := by
  rw [← hr, bI_drop s pos hp, runs, h]
  rfl

set_option maxRecDepth 20000 in
set_option maxHeartbeats 4000000 in
theorem read_any (s : ByteArray) (w : World) (hs : s.size ≤ 100000) :
    Calls Try.prog 8 #[.string s] w (ReadPost s w) := by
  obtain ⟨i0, hi, hz0, hz1, hz2⟩ := info_parts st_info
  obtain ⟨j0, hj, hy0, hy1, hy2⟩ := info_parts sts_info
  go_enter Try.func8, Try.ntmps8
  go_wp2
  obtain ⟨z, hz⟩ : ∃ z, w.heap.size = z := ⟨_, rfl⟩
  have hB0 : Below z w (((w.alloc (.cells #[.slice none 0 0] 28)).alloc (.cells #[.slice none 0 0] 28)).iter s 0) := by
    rw [← hz]
    exact (((Below.refl _ w).alloc (Nat.le_refl _) _).alloc (by simp) _).alloc (by simp; omega) _
  have hI0 : (((w.alloc (.cells #[.slice none 0 0] 28)).alloc (.cells #[.slice none 0 0] 28)).iter s 0).heap[z + 2]? = some (.stringIter s 0) := by
    rw [← hz]
    have := World.iter_heap ((w.alloc (.cells #[.slice none 0 0] 28)).alloc (.cells #[.slice none 0 0] 28)) s 0
    simpa using this
  have hM0 : RMem z 38 34 28 [] [] (.slice none 0 0) (.slice none 0 0) [] (((w.alloc (.cells #[.slice none 0 0] 28)).alloc (.cells #[.slice none 0 0] 28)).iter s 0) := by
    rw [← hz]
    refine ⟨?_, ⟨rfl, .inl ⟨rfl, rfl⟩⟩, ⟨rfl, .inl ⟨rfl, rfl⟩⟩, RowsDone.nil _ _ _, ?_⟩
    · have := Boxed.new (w.alloc (.cells #[.slice none 0 0] 28)) 28 (.slice none 0 0)
      rw [World.size_alloc] at this
      exact this.alloc _
    · exact ((Boxed.new w 28 (.slice none 0 0)).alloc _).alloc _
  rw [hz]
  go_loopw [5] (fun u wr => ∃ (pos : Nat) (R : List (List (Int × Int))) (q : List (Int × Int)) (v : Value) (xs : List Value), pos ≤ s.size ∧ RMem z 38 34 28 R q v u xs wr ∧ wr.heap[z + 2]? = some (.stringIter s pos) ∧ Below z w wr ∧ Good R q pos ∧ runs ((bI s).drop pos) (R, q) = runs (bI s) ([], [])) (fun _ wr => s.size - wr.iterPos (z + 2))
  case atStart => exact ⟨0, [], [], _, [], Nat.zero_le _, hM0, hI0, hB0, Good.nil, rfl⟩
  case round =>
    obtain ⟨pos, R, q, v, xs, hpos, hM, hit, hB, hG, hrun⟩ := hrel
    have hsz : z + 2 < wr.heap.size := (Array.getElem?_eq_some_iff.1 hit).1
    have hcp : wr.iterPos (z + 2) = pos := by simp only [World.iterPos, hit]
    by_cases hp : pos < s.size
    · have hnx : ∀ ty, (Instr.next (.pointer (some ⟨z + 2, 0, none⟩)) true ty).run Try.prog wr = _ := fun ty => Lib.run_next_any_at wr (z + 2) s pos ty hit hp
      have hd1 := decode_le s pos
      have HM2 := Lib.hid (hM.iterAt hit (pos + (Utf8.decode s pos).2))
      have hit2 := Lib.hid (Lib.iterAt_heap wr (z + 2) s pos (pos + (Utf8.decode s pos).2) hit)
      have hB2 := Lib.hid (Lib.below_iterAt hB (k := z + 2) (by omega) s (pos + (Utf8.decode s pos).2))
      have hsz2 : z + 2 < (wr.iterAt (z + 2) s (pos + (Utf8.decode s pos).2)).heap.size := by rw [Lib.iterAt_size]; exact hsz
      by_cases ha : (s[pos]'hp).toNat < 128
      · rw [decode_ascii s pos hp ha] at hnx HM2 hit2 hB2 hsz2
        clear hd1
        obtain ⟨c, hc⟩ : ∃ c, (s[pos]'hp).toNat = c := ⟨_, rfl⟩
        rw [hc] at hnx ha
        have HC := Lib.hid hc
        clear hc
        obtain ⟨W, hW⟩ : ∃ W, wr.iterAt (z + 2) s (pos + 1) = W := ⟨_, rfl⟩
        rw [hW] at hnx HM2 hit2 hB2 hsz2
        have hql : q.length ≤ 100000 := by have := hG.2.1; omega
        have hRl : R.length ≤ 100000 := by have := hG.1; omega
        have HG := Lib.hid hG
        have HIT := Lib.hid hit
        clear hW hG hit hM hB
        by_cases hA : 49 ≤ c ∧ c ≤ 54
        · obtain ⟨a1, a2⟩ := hA
          have hst : pstep (R, q) ((s[pos]'hp).toNat : Int) = some (R, q ++ [(1, (c : Int) - 48)]) := by
            rw [HC.out]
            simp only [pstep]
            rw [if_pos (by omega)]
          have HR2 := Lib.hid (good_step hp hrun hst)
          clear hst
          have f1 : (49 : Int) ≤ c := by omega
          have f2 : (c : Int) ≤ 54 := by omega
          go_wp2_with (at_builtin; refine wpList_append_own_at _ rfl _ _ 34 rfl z 38 i0 (.agg #[.int .u8 0, .int .u8 0, .int .i64 0, .int .i64 0, .bool false]) 5 32 Try.underlying34 hi hz0 hz1 hz2 rfl (by decide) _ _ _ rfl (HM2.out.row.alloc _) ⟨W.heap.size, 0, none⟩ 1 1 (stC (1, (c : Int) - 48)) rfl rfl (five_new _ _ _ _) (by simp [stC, Value.oneCell']) (by unfold maxLen; omega) (by omega) (by simp; omega) ?_; intro u2 w3 hown3 hgrow3 hnil hblk; have HM3 := Lib.hid (HM2.out.more (p := (1, (c : Int) - 48)) hgrow3 hown3 hblk (by decide) (by decide)); have hit3 := Lib.hid (iter_kept hit2.out hgrow3 (fun g hg => by obtain ⟨cs, h⟩ := owns_cells HM2.out.row g hg; exact ⟨cs, _, h⟩)); have hB3 := Lib.hid (Below.grown (hB2.out.alloc (by omega) _) hgrow3 (by simp; omega) (fun k hk => (HM2.out.row.lt k hk).1)); clear hown3 hgrow3 hnil hblk HM2)
          go_roundw
          case rel => exact ⟨pos + 1, R, _, v, xs, by omega, HM3.out, hit3.out, hB3.out, HG.out.more ⟨by omega, by omega, by omega, by omega⟩, HR2.out⟩
          case measure =>
            simp only [World.iterPos, hit3.out, HIT.out]
            omega
        · by_cases hA2 : 97 ≤ c ∧ c ≤ 102
          · obtain ⟨a1, a2⟩ := hA2
            have hst : pstep (R, q) ((s[pos]'hp).toNat : Int) = some (R, q ++ [(2, (c : Int) - 97 + 1)]) := by
              rw [HC.out]
              simp only [pstep]
              rw [if_neg (by omega), if_pos (by omega), show (c : Int) - 97 + 1 = c - 96 by omega]
            have HR2 := Lib.hid (good_step hp hrun hst)
            clear hst hA
            go_wp2_with (at_builtin; refine wpList_append_own_at _ rfl _ _ 34 rfl z 38 i0 (.agg #[.int .u8 0, .int .u8 0, .int .i64 0, .int .i64 0, .bool false]) 5 32 Try.underlying34 hi hz0 hz1 hz2 rfl (by decide) _ _ _ rfl (HM2.out.row.alloc _) ⟨W.heap.size, 0, none⟩ 1 1 (stC (2, (c : Int) - 97 + 1)) rfl rfl (five_new _ _ _ _) (by simp [stC, Value.oneCell']) (by unfold maxLen; omega) (by omega) (by simp; omega) ?_; intro u2 w3 hown3 hgrow3 hnil hblk; have HM3 := Lib.hid (HM2.out.more (p := (2, (c : Int) - 97 + 1)) hgrow3 hown3 hblk (by decide) (by decide)); have hit3 := Lib.hid (iter_kept hit2.out hgrow3 (fun g hg => by obtain ⟨cs, h⟩ := owns_cells HM2.out.row g hg; exact ⟨cs, _, h⟩)); have hB3 := Lib.hid (Below.grown (hB2.out.alloc (by omega) _) hgrow3 (by simp; omega) (fun k hk => (HM2.out.row.lt k hk).1)); clear hown3 hgrow3 hnil hblk HM2)
            go_roundw
            case rel => exact ⟨pos + 1, R, _, v, xs, by omega, HM3.out, hit3.out, hB3.out, HG.out.more ⟨by omega, by omega, by omega, by omega⟩, HR2.out⟩
            case measure =>
              simp only [World.iterPos, hit3.out, HIT.out]
              omega
          · by_cases hA3 : c = 10
            · subst hA3
              have hst : pstep (R, q) ((s[pos]'hp).toNat : Int) = some (R ++ [q], []) := by
                rw [HC.out]
                simp [pstep]
              have HR2 := Lib.hid (good_step hp hrun hst)
              clear hst hA hA2
              obtain ⟨ao, ul, uc, rfl⟩ : ∃ ao l c, u5 = Value.slice ao l c := by
                rcases HM2.out.row.2 with ⟨h, _⟩ | ⟨g, cap, cur, h, _⟩
                · exact ⟨_, _, _, h⟩
                · exact ⟨_, _, _, h⟩
              have c1 := HM2.out.box.cell
              go_wp2_with (at_builtin; refine wpList_append_own_at _ rfl _ _ 26 rfl z 34 j0 (.slice none 0 0) 1 24 Try.underlying26 hj hy0 hy1 hy2 rfl (by decide) _ _ _ rfl (HM2.out.rows.alloc _) ⟨W.heap.size, 0, none⟩ 1 1 [.slice ao ul uc] rfl rfl (cell_one_new _ _ _) (by simp [Value.oneCell']) (by unfold maxLen; omega) (by omega) (by simp; omega) ?_; intro v2 w3 hown3 hgrow3 hnil hblk; obtain ⟨g2, cp, rfl⟩ := ownsRow_succ hown3; have hln := HM2.out.line (by omega) hgrow3 hown3 (by decide) (by decide) (by decide); have p1 := hln.1.cell; have p2 := hln.1.frozen; have HM3 := Lib.hid hln.2; have hit3 := Lib.hid ((Below.heap_setCell w3 ⟨z + 1, 0, none⟩ (.slice (some ⟨g2, 0, none⟩) (R.length + 1) cp) (z + 2) (by show z + 2 ≠ z + 1; omega)).trans (iter_kept hit2.out hgrow3 (fun g hg => by obtain ⟨cs, h⟩ := owns_cells HM2.out.rows g hg; exact ⟨cs, _, h⟩))); have hB3 := Lib.hid ((Below.grown (hB2.out.alloc (by omega) _) hgrow3 (by simp; omega) (fun k hk => (HM2.out.rows.lt k hk).1)).setCell (p := ⟨z + 1, 0, none⟩) (Nat.le_succ _) (.slice (some ⟨g2, 0, none⟩) (R.length + 1) cp)); clear hown3 hgrow3 hnil hblk HM2 hln)
              go_roundw
              case rel => exact ⟨pos + 1, _, _, _, _, by omega, HM3.out, hit3.out, hB3.out, HG.out.line, HR2.out⟩
              case measure =>
                simp only [World.iterPos, hit3.out, HIT.out]
                omega
            · have hz1 : ¬ (c : Int) = 10 := by omega
              have hbad := bad_step hp hrun (R := R) (q := q) (by
                rw [HC.out]; simp only [pstep]; rw [if_neg (by omega), if_neg (by omega), if_neg (by omega)])
              have d1 := HM2.out.res.cell
              have d2 := HM2.out.res.frozen
              have h3 : (c < 49 ∧ c ≠ 10) ∨ (54 < c ∧ c < 97) ∨ 102 < c := by omega
              have HBD := Lib.hid hbad
              clear hbad
              rcases h3 with ⟨h3, h4⟩ | ⟨h3, h4⟩ | h3
              all_goals
                go_wp2
                refine bodyPost_ret (v := .tuple #[.agg #[.slice none 0 0], .int .i64 4]) (results_cr (p := 2) (u := 3) rfl _ _ _ z #[.slice none 0 0] rfl rfl (run_loadVar_row _ z _ 28 #[.slice none 0 0] _ _ (HM2.out.res.set (.slice none 0 0)) Try.underlying28 rfl (by kernel_rfl))) rfl ?_
                exact ⟨.inr ⟨HBD.out, rfl⟩, by rw [hz]; exact hB2.out.setCell (p := ⟨z, 0, none⟩) (Nat.le_refl _) _⟩
      · have h128 := (decode_high s pos hp (by omega)).1
        have HN := Lib.hid ha
        clear ha
        obtain ⟨c, hc⟩ : ∃ c, (Utf8.decode s pos).1 = c := ⟨_, rfl⟩
        rw [hc] at hnx hd1 h128
        obtain ⟨W, hW⟩ : ∃ W, wr.iterAt (z + 2) s (pos + (Utf8.decode s pos).2) = W := ⟨_, rfl⟩
        rw [hW] at hnx HM2 hit2 hB2 hsz2
        clear hc hW hM hB hit
        have hbad := bad_step hp hrun (R := R) (q := q) (by
          have := HN.out; simp only [pstep]; rw [if_neg (by omega), if_neg (by omega), if_neg (by omega)])
        have d1 := HM2.out.res.cell
        have d2 := HM2.out.res.frozen
        have h3 : 102 < c := by omega
        have HBD := Lib.hid hbad
        clear hbad
        go_wp2
        refine bodyPost_ret (v := .tuple #[.agg #[.slice none 0 0], .int .i64 4]) (results_cr (p := 2) (u := 3) rfl _ _ _ z #[.slice none 0 0] rfl rfl (run_loadVar_row _ z _ 28 #[.slice none 0 0] _ _ (HM2.out.res.set (.slice none 0 0)) Try.underlying28 rfl (by kernel_rfl))) rfl ?_
        exact ⟨.inr ⟨HBD.out, rfl⟩, by rw [hz]; exact hB2.out.setCell (p := ⟨z, 0, none⟩) (Nat.le_refl _) _⟩
    · have hnx : ∀ ty, (Instr.next (.pointer (some ⟨z + 2, 0, none⟩)) true ty).run Try.prog wr = _ := fun ty => Lib.run_next_end_at wr (z + 2) s pos ty hit hp
      have hfin : runs (bI s) ([], []) = some (R, q) := by
        rw [← hrun, List.drop_eq_nil_of_le (by rw [bI_len]; omega)]
        rfl
      have HM := Lib.hid hM
      have HB := Lib.hid hB
      have HF := Lib.hid hfin
      have hRl : R.length ≤ 100000 := by have := hG.1; omega
      have hSC := Lib.hid (hG.simple (by omega))
      obtain ⟨ul, hul⟩ : ∃ ul, q.length = ul := ⟨_, rfl⟩
      obtain ⟨ao, uc, rfl⟩ : ∃ ao c, u5 = Value.slice ao ul c := by
        rcases hM.row.2 with ⟨h, h0⟩ | ⟨g, cap, cur, h, _⟩
        · exact ⟨_, _, by rw [h, ← hul, h0]⟩
        · exact ⟨_, _, by rw [h, ← hul]⟩
      have HUL := Lib.hid hul
      have c1 := hM.box.cell
      have d1 := hM.res.cell
      have d2 := hM.res.frozen
      clear hrun hfin hG hul hB
      rcases hM.rows.2 with ⟨rfl, h0⟩ | ⟨g, cap, cur, rfl, hzg, hgb, _⟩
      · have HBD : Hid (¬ ∃ R, ReadOk (bI s) R) := Lib.hid (by
          rintro ⟨R2, h2, h3⟩
          rw [HF.out] at h2
          have h4 := Option.some.inj h2
          simp only [Prod.mk.injEq] at h4
          have := h3.1
          rw [← h4.1, h0] at this
          simp at this)
        have hPL := Lib.hid (plain_no 0 0 (Lr []) (Kr []) (Yr []) none wr (by omega) (.inl rfl) (fun i hi => absurd hi (Nat.not_lt_zero _)) (fun hv => by have := hv.1; simp at this))
        clear hM h0
        have hBx := Lib.hid HM.out.res
        clear HM
        by_cases hq : 0 < ul
        · go_wp2_with fail
          refine (reverse_nil wr).mono ?_; rintro e w' ⟨⟨v9, rfl⟩, rfl⟩
          go_wp2
          refine bodyPost_ret (v := .tuple #[.agg #[.slice none 0 0], .int .i64 4]) (results_cr (p := 2) (u := 3) rfl _ _ _ z #[.slice none 0 0] rfl rfl (run_loadVar_row _ z _ 28 #[.slice none 0 0] _ _ (Boxed.set (.slice none 0 0) (hBx.out)) Try.underlying28 rfl (by kernel_rfl))) rfl ?_
          exact ⟨.inr ⟨HBD.out, rfl⟩, by rw [hz]; exact (HB.out).setCell (p := ⟨z, 0, none⟩) (Nat.le_refl _) _⟩
        · obtain rfl : ul = 0 := by omega
          go_wp2_with fail
          refine (reverse_nil wr).mono ?_; rintro e w' ⟨⟨v9, rfl⟩, rfl⟩
          go_wp2_with fail
          refine (hPL.out).mono ?_; rintro e w5 ⟨rfl, hB5⟩
          have hz5 : z + 2 < w'.heap.size := hsz
          have d3 := (hB5.cell (p := ⟨z, 0, none⟩) (by show z < w'.heap.size; omega)).trans d1
          have d4 := (World.frozen?_of_block (a := ⟨z, 0, none⟩) (hB5.block z (by omega))).trans d2
          have hBx5 := Lib.hid ((hB5.block z (by omega)).trans hBx.out)
          have hBB5 := Lib.hid (HB.out.trans (hB5.mono (by omega)))
          clear hB5 hPL
          go_wp2
          refine bodyPost_ret (v := .tuple #[.agg #[.slice none 0 0], .int .i64 4]) (results_cr (p := 2) (u := 3) rfl _ _ _ z #[.slice none 0 0] rfl rfl (run_loadVar_row _ z _ 28 #[.slice none 0 0] _ _ (Boxed.set (.slice none 0 0) (hBx5.out)) Try.underlying28 rfl (by kernel_rfl))) rfl ?_
          exact ⟨.inr ⟨HBD.out, rfl⟩, by rw [hz]; exact (hBB5.out).setCell (p := ⟨z, 0, none⟩) (Nat.le_refl _) _⟩
      · clear hM
        have hgz : z ≠ g := by
          rintro rfl
          have h1 : wr.heap[z]? = some (.cells #[.slice none 0 0] 28 (0, 0)) := HM.out.res
          rw [hgb] at h1
          simp at h1
        have hgz1 : z + 1 ≠ g := by
          rintro rfl
          have h1 := HM.out.box
          unfold Boxed at h1
          rw [hgb] at h1
          simp at h1
        obtain ⟨N, f, hN, hcap, hrow, hf⟩ := own_row HM.out.rows
        have hV : ∀ i, i < R.length → ∃ ao l c, f i = .slice ao l c := fun i hi => by
          obtain ⟨ra, rc, h1, _⟩ := HM.out.done i R[i] (by simp [hi])
          exact ⟨_, _, _, hf _ _ h1⟩
        have HRV := Lib.hid (reverse_rows R.length cap N g 34 f wr hRl hN hrow hV)
        have HRW := Lib.hid hrow
        have HFF := Lib.hid hf
        have hBx := Lib.hid HM.out.res
        have hBx1 := Lib.hid HM.out.box
        clear hgb hV hrow hf
        by_cases hq : 0 < ul
        · have HBD : Hid (¬ ∃ R, ReadOk (bI s) R) := Lib.hid (by
            rintro ⟨R2, h2, h3⟩
            rw [HF.out] at h2
            have h4 := Option.some.inj h2
            simp only [Prod.mk.injEq] at h4
            have := HUL.out
            rw [h4.2] at this
            simp at this
            omega)
          go_wp2_with fail
          refine (HRV.out).mono ?_; rintro e w1 ⟨⟨v9, rfl⟩, hrw, hBt⟩
          have d3 := (World.cell?_of_block (a := ⟨z, 0, none⟩) (hBt.2.2.2.2 z hgz)).trans d1
          have d4 := (World.frozen?_of_block (a := ⟨z, 0, none⟩) (hBt.2.2.2.2 z hgz)).trans d2
          have hBx5 := Lib.hid ((hBt.2.2.2.2 z hgz).trans hBx.out)
          have hBB5 := Lib.hid (HB.out.trans (hBt.below hzg))
          clear hrw hBt HRV
          go_wp2
          refine bodyPost_ret (v := .tuple #[.agg #[.slice none 0 0], .int .i64 4]) (results_cr (p := 2) (u := 3) rfl _ _ _ z #[.slice none 0 0] rfl rfl (run_loadVar_row _ z _ 28 #[.slice none 0 0] _ _ (Boxed.set (.slice none 0 0) (hBx5.out)) Try.underlying28 rfl (by kernel_rfl))) rfl ?_
          exact ⟨.inr ⟨HBD.out, rfl⟩, by rw [hz]; exact (hBB5.out).setCell (p := ⟨z, 0, none⟩) (Nat.le_refl _) _⟩
        · obtain rfl : ul = 0 := by omega
          have hq0 : q = [] := List.eq_nil_of_length_eq_zero HUL.out
          have HQ := Lib.hid hq0
          clear hq0
          go_wp2_with fail
          refine (HRV.out).mono ?_; rintro e w1 ⟨⟨v9, rfl⟩, hrw, hBt⟩
          have d3 := (World.cell?_of_block (a := ⟨z, 0, none⟩) (hBt.2.2.2.2 z hgz)).trans d1
          have d4 := (World.frozen?_of_block (a := ⟨z, 0, none⟩) (hBt.2.2.2.2 z hgz)).trans d2
          have c3 := (World.cell?_of_block (a := ⟨z + 1, 0, none⟩) (hBt.2.2.2.2 (z + 1) hgz1)).trans c1
          have hBx5 := Lib.hid ((hBt.2.2.2.2 z hgz).trans hBx.out)
          have hBB5 := Lib.hid (HB.out.trans (hBt.below hzg))
          have hsz1 : z + 2 < w1.heap.size := by rw [hBt.2.2.2.1]; exact hsz
          have HT := Lib.hid (turned_rows HM.out HFF.out (by decide) HRW.out hBt)
          have HRT : Hid (Row w1 g 34 (vrow N (turned R.length f))) := Lib.hid hrw
          have HCV := Lib.hid (chart_turned hN HRT.out HT.out)
          clear hrw hBt HRV
          by_cases hv : ValidC R.length (Lr R)
          · have HP := Lib.hid (plain_yes R.length cap (Lr R) (Kr R) (Yr R) _ w1 HCV.out hSC.out hv)
            have hHV := Lib.hid hv
            clear hv
            go_wp2_with fail
            refine (HP.out).mono ?_; rintro e w5 ⟨rfl, hB5⟩
            have d5 := (hB5.cell (p := ⟨z, 0, none⟩) (by show z < w1.heap.size; omega)).trans d3
            have d6 := (World.frozen?_of_block (a := ⟨z, 0, none⟩) (hB5.block z (by omega))).trans d4
            have c5 := (hB5.cell (p := ⟨z + 1, 0, none⟩) (by show z + 1 < w1.heap.size; omega)).trans c3
            have hBx6 := Lib.hid ((hB5.block z (by omega)).trans hBx5.out)
            have hBB6 := Lib.hid (hBB5.out.trans (hB5.mono (by omega)))
            obtain ⟨A, C, hA, hvr⟩ := to_clip (N := N) HT.out (fun i hi => (hHV.out.2.2.1 i hi).1)
            have hgl := HRT.out.lt
            have hRc : Row w5 g 34 (vrow N (clipd R.length 0 A (Lr R) C (turned R.length f))) := by
              rw [← hvr]
              exact HRT.out.below hB5 hgl
            have HA := Lib.hid (fun i hi => (hA i hi).imp_right (fun h => (⟨h.1, h.2.same (hB5.block _ h.2.lt)⟩ : A i ≠ g ∧ RowB w5 (A i) 38 (rowR R i))))
            have HCL := Lib.hid (clip_chart R.length cap N g 34 A (Lr R) C (turned R.length f) w5 hRl hN hcap (fun i hi => (hA i hi).1) hRc)
            have hgw5 : z + 2 < w5.heap.size := Nat.lt_of_lt_of_le hsz1 hB5.size
            clear hB5 HP hA hvr hRc
            go_wp2_with fail
            refine (HCL.out).mono ?_; rintro e w6 ⟨rfl, hrw6, hg6⟩
            have d7 := (World.cell?_of_block (a := ⟨z, 0, none⟩) (hg6.block z (by omega) (fun e => hgz (Option.some.inj e)))).trans d5
            have d8 := (World.frozen?_of_block (a := ⟨z, 0, none⟩) (hg6.block z (by omega) (fun e => hgz (Option.some.inj e)))).trans d6
            have hBx7 := Lib.hid ((hg6.block z (by omega) (fun e => hgz (Option.some.inj e))).trans hBx6.out)
            have hBB7 := Lib.hid (Below.grown hBB6.out hg6 (by omega) (fun k e => by rw [← Option.some.inj e]; exact hzg))
            have HA6 := Lib.hid (fun i hi => (HA.out i hi).imp_right (fun h => (⟨h.1, h.2.same (hg6.block _ h.2.lt (fun e => h.1 (Option.some.inj e)))⟩ : A i ≠ g ∧ RowB w6 (A i) 38 (rowR R i))))
            have HR6 := Lib.hid hrw6
            have hz6 : z + 2 < w6.heap.size := Nat.lt_of_lt_of_le hgw5 hg6.size
            clear hrw6 hg6 HCL
            go_wp2
            refine bodyPost_ret (v := .tuple #[.agg #[.slice (some ⟨g, 0, none⟩) R.length R.length], .int .i64 0]) (results_cr (p := 2) (u := 3) rfl _ _ _ z #[.slice (some ⟨g, 0, none⟩) R.length R.length] rfl rfl (run_loadVar_row _ z _ 28 #[.slice (some ⟨g, 0, none⟩) R.length R.length] _ _ (Boxed.set (.slice (some ⟨g, 0, none⟩) R.length R.length) (hBx7.out)) Try.underlying28 rfl (by kernel_rfl))) rfl ?_
            refine ⟨.inl ⟨R, g, ⟨?_, hHV.out⟩, rfl, ?_, hSC.out⟩, by rw [hz]; exact (hBB7.out).setCell (p := ⟨z, 0, none⟩) (Nat.le_refl _) _⟩
            · rw [HF.out, HQ.out]
            · refine chart_turned (ST := 38) hN (HR6.out.setCell_other (by show g ≠ z; exact fun e => hgz e.symm) _) fun i hi => ?_
              obtain ⟨h1, h2, h3⟩ := HA6.out i hi
              have h4 : A i ≠ z := by
                intro e
                rw [e] at h3
                obtain ⟨cs, h5, _⟩ := h3
                rw [show w6.heap[z]? = _ from hBx7.out] at h5
                simp at h5
              exact ⟨some ⟨A i, 0, none⟩, Lr R i, by rw [clipd, if_pos hi]; rfl, Nat.le_refl _, .inr ⟨A i, rfl, h2, h3.same (Below.heap_setCell _ _ _ _ h4)⟩⟩
          · have HP := Lib.hid (plain_no R.length cap (Lr R) (Kr R) (Yr R) _ w1 (by omega) HCV.out hSC.out hv)
            have HBD : Hid (¬ ∃ R, ReadOk (bI s) R) := Lib.hid (by
              rintro ⟨R2, h2, h3⟩
              rw [HF.out] at h2
              have h4 := Option.some.inj h2
              simp only [Prod.mk.injEq] at h4
              rw [← h4.1] at h3
              exact hv h3)
            clear hv
            go_wp2_with fail
            refine (HP.out).mono ?_; rintro e w5 ⟨rfl, hB5⟩
            have d5 := (hB5.cell (p := ⟨z, 0, none⟩) (by show z < w1.heap.size; omega)).trans d3
            have d6 := (World.frozen?_of_block (a := ⟨z, 0, none⟩) (hB5.block z (by omega))).trans d4
            have hBx6 := Lib.hid ((hB5.block z (by omega)).trans hBx5.out)
            have hBB6 := Lib.hid (hBB5.out.trans (hB5.mono (by omega)))
            clear hB5 HP
            go_wp2
            refine bodyPost_ret (v := .tuple #[.agg #[.slice none 0 0], .int .i64 4]) (results_cr (p := 2) (u := 3) rfl _ _ _ z #[.slice none 0 0] rfl rfl (run_loadVar_row _ z _ 28 #[.slice none 0 0] _ _ (Boxed.set (.slice none 0 0) (hBx6.out)) Try.underlying28 rfl (by kernel_rfl))) rfl ?_
            exact ⟨.inr ⟨HBD.out, rfl⟩, by rw [hz]; exact (hBB6.out).setCell (p := ⟨z, 0, none⟩) (Nat.le_refl _) _⟩
end Go.Proofs.Ytblcphibkcjmdaa

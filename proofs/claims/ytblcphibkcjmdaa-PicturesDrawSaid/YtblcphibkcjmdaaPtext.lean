/-
  The text of rows, plainly: what is read is the text, and the drawing is read back.
-/
import Derived.Test.YtblcphibkcjmdaaPread
namespace Go.Proofs.Ytblcphibkcjmdaa
open Go.RowKit

def encS (p : Int × Int) : Int := if p.1 = 1 then 48 + p.2 else 96 + p.2
def txt (R : List (List (Int × Int))) : List Int := R.flatMap fun r => r.map encS ++ [10]
theorem txt_cons (r : List (Int × Int)) (R : List (List (Int × Int))) : txt (r :: R) = r.map encS ++ 10 :: txt R := by simp [txt]
theorem txt_snoc (R : List (List (Int × Int))) (r : List (Int × Int)) : txt (R ++ [r]) = txt R ++ r.map encS ++ [10] := by simp [txt]

theorem step_txt {R R2 : List (List (Int × Int))} {q q2 : List (Int × Int)} {c : Int} (h : pstep (R, q) c = some (R2, q2)) : txt R2 ++ q2.map encS = txt R ++ q.map encS ++ [c] := by
  unfold pstep at h
  split at h
  · cases h
    have e : encS (1, c - 48) = c := by simp [encS]; omega
    simp [e]
  · split at h
    · cases h
      have e : encS (2, c - 96) = c := by simp [encS]; omega
      simp [e]
    · split at h
      · rename_i hc
        cases h
        rw [txt_snoc, hc]
        simp
      · cases h
theorem runs_txt : ∀ (l : List Int) (R R2 : List (List (Int × Int))) (q q2 : List (Int × Int)), runs l (R, q) = some (R2, q2) → txt R2 ++ q2.map encS = txt R ++ q.map encS ++ l
  | [], R, R2, q, q2, h => by
    simp only [runs, Option.some.injEq, Prod.mk.injEq] at h
    rw [h.1, h.2]; simp
  | c :: l, R, R2, q, q2, h => by
    simp only [runs] at h
    rcases e : pstep (R, q) c with _ | ⟨R3, q3⟩
    · rw [e] at h; cases h
    · rw [e] at h
      have h1 := runs_txt l R3 R2 q3 q2 h
      rw [h1, step_txt e]
      simp

theorem step_enc (R : List (List (Int × Int))) (q : List (Int × Int)) (p : Int × Int) (h : Simple p.1 p.2) : pstep (R, q) (encS p) = some (R, q ++ [p]) := by
  obtain ⟨k, y⟩ := p
  obtain ⟨h1, h2, h3, h4⟩ := h
  simp only at h1 h2 h3 h4
  rcases (by omega : k = 1 ∨ k = 2) with rfl | rfl
  · have e : encS (1, y) = 48 + y := rfl
    rw [e]
    simp only [pstep]
    rw [if_pos (by omega), show (48 + y) - 48 = y by omega]
  · have e : encS (2, y) = 96 + y := rfl
    rw [e]
    simp only [pstep]
    rw [if_neg (by omega), if_pos (by omega), show (96 + y) - 96 = y by omega]
theorem runs_row (R : List (List (Int × Int))) : ∀ (r q : List (Int × Int)) (l : List Int), (∀ p ∈ r, Simple p.1 p.2) → runs (r.map encS ++ l) (R, q) = runs l (R, q ++ r)
  | [], q, l, _ => by simp
  | p :: r, q, l, h => by
    rw [List.map_cons, List.cons_append, runs, step_enc R q p (h p (by simp)), Option.bind_some, runs_row R r (q ++ [p]) l (fun x hx => h x (by simp [hx]))]
    simp
theorem runs_rows : ∀ (R R0 : List (List (Int × Int))) (l : List Int), (∀ r ∈ R, ∀ p ∈ r, Simple p.1 p.2) → runs (txt R ++ l) (R0, []) = runs l (R0 ++ R, [])
  | [], R0, l, _ => by simp [txt]
  | r :: R, R0, l, h => by
    rw [txt_cons, List.append_assoc, runs_row R0 r [] _ (h r (by simp)), List.cons_append, runs]
    have e : pstep (R0, [] ++ r) 10 = some (R0 ++ [r], []) := by simp [pstep]
    rw [e, Option.bind_some, runs_rows R (R0 ++ [r]) l (fun x hx => h x (by simp [hx]))]
    simp

/-- The rows of a chart as they are drawn: from the last on. -/
def rowP (L : Nat → Nat) (K Y : Nat → Nat → Int) (i : Nat) : List (Int × Int) := (List.range (L i)).map fun j => (K i j, Y i j)
def rowsP (n : Nat) (L : Nat → Nat) (K Y : Nat → Nat → Int) : List (List (Int × Int)) := (back n n).map (rowP L K Y)
theorem rowsP_len (n : Nat) (L : Nat → Nat) (K Y : Nat → Nat → Int) : (rowsP n L K Y).length = n := by simp [rowsP, back_len]
theorem rowI_enc (L : Nat → Nat) (K Y : Nat → Nat → Int) (i : Nat) : rowI (L i) K Y i = (rowP L K Y i).map encS := by
  simp [rowI, rowP, chI, encS, List.map_map, Function.comp_def]
theorem txt_rowsP (n : Nat) (L : Nat → Nat) (K Y : Nat → Nat → Int) : txt (rowsP n L K Y) = drawnI L K Y (back n n) := by
  unfold txt rowsP drawnI
  rw [List.flatMap_map]
  congr 1
  funext i
  rw [rowI_enc]
theorem rowsP_get (n : Nat) (L : Nat → Nat) (K Y : Nat → Nat → Int) (i : Nat) (hi : i < n) : rowR (rowsP n L K Y) i = rowP L K Y i := by
  unfold rowR
  rw [rowsP_len]
  unfold rowsP back
  rw [List.map_map, List.getD_eq_getElem?_getD, List.getElem?_map, List.getElem?_range (by omega)]
  simp
  congr 1
  omega
theorem rowsP_L (n : Nat) (L : Nat → Nat) (K Y : Nat → Nat → Int) (i : Nat) (hi : i < n) : Lr (rowsP n L K Y) i = L i := by
  unfold Lr; rw [rowsP_get _ _ _ _ _ hi]; simp [rowP]
theorem rowsP_K (n : Nat) (L : Nat → Nat) (K Y : Nat → Nat → Int) (i j : Nat) (hi : i < n) (hj : j < L i) : Kr (rowsP n L K Y) i j = K i j := by
  unfold Kr; rw [rowsP_get _ _ _ _ _ hi]; simp [rowP, hj]
theorem rowsP_Y (n : Nat) (L : Nat → Nat) (K Y : Nat → Nat → Int) (i j : Nat) (hi : i < n) (hj : j < L i) : Yr (rowsP n L K Y) i j = Y i j := by
  unfold Yr; rw [rowsP_get _ _ _ _ _ hi]; simp [rowP, hj]
theorem rowsP_simple (n : Nat) (L : Nat → Nat) (K Y : Nat → Nat → Int) (h : ∀ i, i < n → SimpleRow (L i) (K i) (Y i)) : ∀ r ∈ rowsP n L K Y, ∀ p ∈ r, Simple p.1 p.2 := by
  intro r hr p hp
  obtain ⟨i, hi, rfl⟩ := List.mem_map.1 hr
  obtain ⟨j, hj, rfl⟩ := List.mem_map.1 hp
  obtain ⟨t, ht, rfl⟩ := List.mem_map.1 hi
  have ht2 := List.mem_range.1 ht
  exact h _ (by omega) j (List.mem_range.1 hj)
/-- A valid chart's drawing is read back. -/
theorem read_drawn (n : Nat) (L : Nat → Nat) (K Y : Nat → Nat → Int) (h : ∀ i, i < n → SimpleRow (L i) (K i) (Y i)) (hv : ValidC n L) :
    ReadOk (drawnI L K Y (back n n)) (rowsP n L K Y) := by
  refine ⟨?_, ?_⟩
  · have := runs_rows (rowsP n L K Y) [] [] (rowsP_simple n L K Y h)
    rw [List.append_nil, txt_rowsP, List.nil_append] at this
    rw [this]
    rfl
  · obtain ⟨h1, h2, h3, h4⟩ := hv
    rw [rowsP_len]
    exact ⟨h1, h2, fun i hi => by rw [rowsP_L _ _ _ _ _ hi]; exact h3 i hi, fun i hi => by rw [rowsP_L _ _ _ _ _ hi, rowsP_L _ _ _ _ 0 (by omega)]; exact h4 i hi⟩
theorem readOk_one {l : List Int} {R R2 : List (List (Int × Int))} (h : ReadOk l R) (h2 : ReadOk l R2) : R = R2 := by
  have := h.1.symm.trans h2.1
  simpa using this

theorem rowR_list (R : List (List (Int × Int))) : (back R.length R.length).map (rowR R) = R := by
  apply List.ext_getElem
  · simp [back_len]
  · intro i h1 h2
    simp only [back, List.map_map, List.getElem_map, List.getElem_range, Function.comp_apply, rowR]
    have e : R.length - 1 - (R.length - 1 - i) = i := by omega
    rw [e]
    simp [h2]
theorem rowI_rowR (R : List (List (Int × Int))) (i : Nat) : rowI (Lr R i) (Kr R) (Yr R) i = (rowR R i).map encS := by
  apply List.ext_getElem
  · simp [rowI, Lr]
  · intro j h1 h2
    have hj : j < (rowR R i).length := by simpa using h2
    simp [rowI, chI, encS, Kr, Yr, hj]
theorem drawn_txt (R : List (List (Int × Int))) : drawnI (Lr R) (Kr R) (Yr R) (back R.length R.length) = txt R := by
  conv => rhs; rw [← rowR_list R]
  unfold txt drawnI
  rw [List.flatMap_map]
  congr 1
  funext i
  rw [rowI_rowR]
/-- What is read is the drawing of what has been read. -/
theorem drawn_read {l : List Int} {R : List (List (Int × Int))} (h : ReadOk l R) : drawnI (Lr R) (Kr R) (Yr R) (back R.length R.length) = l := by
  have := runs_txt _ _ _ _ _ h.1
  simp [txt] at this
  rw [drawn_txt, ← this]
  rfl

theorem str_bI (s : ByteArray) : strOfNums (bI s) = s := by
  obtain ⟨⟨l⟩⟩ := s
  unfold strOfNums bI
  congr 1
  congr 1
  simp [List.map_map, Function.comp_def]
theorem bI_str (l : List Int) (h : ∀ x ∈ l, 0 ≤ x ∧ x < 256) : bI (strOfNums l) = l := by
  unfold strOfNums bI
  simp only [List.map_map]
  conv => rhs; rw [← List.map_id l]
  apply List.map_congr_left
  intro x hx
  have := h x hx
  simp
  omega
theorem drawnI_bd (L : Nat → Nat) (K Y : Nat → Nat → Int) (l : List Nat) (h : ∀ i ∈ l, SimpleRow (L i) (K i) (Y i)) : ∀ x ∈ drawnI L K Y l, 0 ≤ x ∧ x < 256 := by
  intro x hx
  obtain ⟨i, hi, hx⟩ := List.mem_flatMap.1 hx
  rcases List.mem_append.1 hx with hx | hx
  · obtain ⟨j, hj, rfl⟩ := List.mem_map.1 hx
    have := h i hi j (List.mem_range.1 hj)
    obtain ⟨h1, h2, h3, h4⟩ := this
    unfold chI
    split <;> omega
  · have : x = 10 := by simpa using hx
    omega
theorem back_lt (n i : Nat) (h : i ∈ back n n) : i < n := by
  obtain ⟨t, ht, rfl⟩ := List.mem_map.1 h
  have := List.mem_range.1 ht
  omega
theorem ChartV.congr {w : World} {ao : Option Addr} {n : Nat} {L L2 : Nat → Nat} {K K2 Y Y2 : Nat → Nat → Int} (h : ChartV w ao n L K Y) (hL : ∀ i, i < n → L i = L2 i) (hK : ∀ i j, i < n → j < L i → K i j = K2 i j) (hY : ∀ i j, i < n → j < L i → Y i j = Y2 i j) : ChartV w ao n L2 K2 Y2 := by
  rcases h with h | ⟨b, off, e, hb, h⟩
  · exact .inl h
  · refine .inr ⟨b, off, e, hb, fun i hi => ?_⟩
    obtain ⟨ra, rc, h1, h2, h3⟩ := h i hi
    refine ⟨ra, rc, by rw [← hL i hi]; exact h1, by rw [← hL i hi]; exact h2, ?_⟩
    rw [← hL i hi]
    rcases h3 with h3 | ⟨b2, off2, e2, hb2, h3⟩
    · exact .inl h3
    · refine .inr ⟨b2, off2, e2, hb2, fun j hj => ?_⟩
      rw [← hK i j hi hj, ← hY i j hi hj]
      exact h3 j hj
/-- What Read of a drawing gives is the chart. -/
theorem read_back {w : World} {ao : Option Addr} {n : Nat} {L : Nat → Nat} {K Y : Nat → Nat → Int} {R : List (List (Int × Int))} (hs : ∀ i, i < n → SimpleRow (L i) (K i) (Y i)) (hv : ValidC n L)
    (hR : ReadOk (bI (strOfNums (drawnI L K Y (back n n)))) R) (hc : ChartV w ao R.length (Lr R) (Kr R) (Yr R)) : R.length = n ∧ ChartV w ao n L K Y := by
  rw [bI_str _ (drawnI_bd _ _ _ _ fun i hi => hs i (back_lt n i hi))] at hR
  obtain rfl := readOk_one hR (read_drawn n L K Y hs hv)
  rw [rowsP_len] at hc
  exact ⟨rowsP_len _ _ _ _, hc.congr (fun i hi => rowsP_L _ _ _ _ _ hi) (fun i j hi hj => rowsP_K _ _ _ _ _ _ hi (by rwa [rowsP_L _ _ _ _ _ hi] at hj)) (fun i j hi hj => rowsP_Y _ _ _ _ _ _ hi (by rwa [rowsP_L _ _ _ _ _ hi] at hj))⟩
/-- If a text is a drawing, it is the one of what has been read. -/
theorem draw_back {s : ByteArray} {R : List (List (Int × Int))} (h : ReadOk (bI s) R) : strOfNums (drawnI (Lr R) (Kr R) (Yr R) (back R.length R.length)) = s := by
  rw [drawn_read h, str_bI]

end Go.Proofs.Ytblcphibkcjmdaa

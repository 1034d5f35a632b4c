/-
  What pictures.Read does, plainly; what the memory holds while it reads.
-/
import Derived.Lib.OthersKept
import Derived.Laws.RangeAny
import Derived.Maps.AppendAt
import Derived.Test.YtblcphibkcjmdaaPdraw
namespace Go.Proofs.Ytblcphibkcjmdaa
open Go.RowKit

/-- One letter more: the rows that are done, and the row that is being read. -/
def pstep (s : List (List (Int × Int)) × List (Int × Int)) (c : Int) : Option (List (List (Int × Int)) × List (Int × Int)) :=
  if 49 ≤ c ∧ c ≤ 54 then some (s.1, s.2 ++ [(1, c - 48)])
  else if 97 ≤ c ∧ c ≤ 102 then some (s.1, s.2 ++ [(2, c - 96)])
  else if c = 10 then some (s.1 ++ [s.2], [])
  else none
def runs : List Int → List (List (Int × Int)) × List (Int × Int) → Option (List (List (Int × Int)) × List (Int × Int))
  | [], s => some s
  | c :: l, s => (pstep s c).bind (runs l)
/-- The bytes of a string. -/
def bI (s : ByteArray) : List Int := s.data.toList.map fun b => (b.toNat : Int)
theorem bI_len (s : ByteArray) : (bI s).length = s.size := by
  show ((s.data.toList).map _).length = s.data.size
  rw [List.length_map, Array.length_toList]
theorem bI_drop (s : ByteArray) (pos : Nat) (h : pos < s.size) : (bI s).drop pos = ((s[pos]'h).toNat : Int) :: (bI s).drop (pos + 1) := by
  rw [List.drop_eq_getElem_cons (by rw [bI_len]; exact h)]
  congr 1
  simp [bI]
  rfl

/-- The rows from the last on: how long, what stitches. -/
def rowR (R : List (List (Int × Int))) (i : Nat) : List (Int × Int) := R.getD (R.length - 1 - i) []
def Lr (R : List (List (Int × Int))) (i : Nat) : Nat := (rowR R i).length
def Kr (R : List (List (Int × Int))) (i j : Nat) : Int := ((rowR R i).getD j (1, 1)).1
def Yr (R : List (List (Int × Int))) (i j : Nat) : Int := ((rowR R i).getD j (1, 1)).2

def Good (R : List (List (Int × Int))) (q : List (Int × Int)) (m : Nat) : Prop :=
  R.length ≤ m ∧ q.length ≤ m ∧ (∀ p ∈ q, Simple p.1 p.2) ∧ ∀ r ∈ R, r.length ≤ m ∧ ∀ p ∈ r, Simple p.1 p.2
theorem Good.nil : Good [] [] 0 := ⟨Nat.le_refl _, Nat.le_refl _, fun p hp => absurd hp (by simp), fun r hr => absurd hr (by simp)⟩
theorem Good.more {R : List (List (Int × Int))} {q : List (Int × Int)} {m : Nat} (h : Good R q m) {k y : Int} (hs : Simple k y) : Good R (q ++ [(k, y)]) (m + 1) := by
  obtain ⟨h1, h2, h3, h4⟩ := h
  refine ⟨by omega, by simp; omega, fun p hp => ?_, fun r hr => ⟨by have := (h4 r hr).1; omega, (h4 r hr).2⟩⟩
  rcases List.mem_append.1 hp with hp | hp
  · exact h3 p hp
  · obtain rfl : p = (k, y) := by simpa using hp
    exact hs
theorem Good.line {R : List (List (Int × Int))} {q : List (Int × Int)} {m : Nat} (h : Good R q m) : Good (R ++ [q]) [] (m + 1) := by
  obtain ⟨h1, h2, h3, h4⟩ := h
  refine ⟨by simp; omega, by simp, fun p hp => absurd hp (by simp), fun r hr => ?_⟩
  rcases List.mem_append.1 hr with hr | hr
  · exact ⟨by have := (h4 r hr).1; omega, (h4 r hr).2⟩
  · obtain rfl : r = q := by simpa using hr
    exact ⟨by omega, h3⟩
theorem Good.simple {R : List (List (Int × Int))} {q : List (Int × Int)} {m : Nat} (h : Good R q m) (hm : m ≤ 100000) : SimpleChart R.length (Lr R) (Kr R) (Yr R) := fun i hi => by
  have hlt : R.length - 1 - i < R.length := by omega
  have e : rowR R i = R[R.length - 1 - i] := by simp [rowR, hlt]
  have hm2 : rowR R i ∈ R := by rw [e]; exact List.getElem_mem _
  refine ⟨fun j hj => ?_, ?_⟩
  · have hj2 : j < (rowR R i).length := hj
    have := (h.2.2.2 _ hm2).2 ((rowR R i)[j]) (List.getElem_mem _)
    simpa [Kr, Yr, hj2] using this
  · have := (h.2.2.2 _ hm2).1
    show (rowR R i).length ≤ 100000
    omega

/-- The cells of stitches. -/
def stC (p : Int × Int) : List Value := [.int .u8 p.1, .int .u8 p.2, .int .i64 0, .int .i64 0, .bool false]
def stCells (q : List (Int × Int)) : List Value := q.flatMap stC
theorem stCells_snoc (q : List (Int × Int)) (p : Int × Int) : stCells (q ++ [p]) = stCells q ++ stC p := by simp [stCells]
theorem stCells_len : ∀ q : List (Int × Int), (stCells q).length = q.length * 5
  | [] => rfl
  | p :: q => by
    have e : stCells (p :: q) = stC p ++ stCells q := rfl
    rw [e, List.length_append, stCells_len q, List.length_cons]
    simp [stC]
    omega
theorem stCells_get : ∀ (q : List (Int × Int)) (j : Nat) (p : Int × Int), q[j]? = some p → ∀ i v, (stC p)[i]? = some v → (stCells q)[j * 5 + i]? = some v
  | p :: q, 0, p', h, i, v, hv => by
    obtain rfl : p = p' := by simpa using h
    have e : stCells (p :: q) = stC p ++ stCells q := rfl
    rw [e, Nat.zero_mul, Nat.zero_add, List.getElem?_append_left]
    · exact hv
    · exact (List.getElem?_eq_some_iff.1 hv).1
  | p :: q, j + 1, p', h, i, v, hv => by
    have e : stCells (p :: q) = stC p ++ stCells q := rfl
    have hl : (stC p).length = 5 := rfl
    rw [e, List.getElem?_append_right (by rw [hl]; omega), hl]
    have := stCells_get q j p' (by simpa using h) i v hv
    rwa [show (j + 1) * 5 + i - 5 = j * 5 + i by omega]

/-- A row in memory: a block of stitches' cells. -/
def RowB (w : World) (b : Nat) (ST : TypeId) (r : List (Int × Int)) : Prop := ∃ cs, w.heap[b]? = some (.cells cs ST (0, 0)) ∧ cs.toList.take (r.length * 5) = stCells r
theorem RowB.same {w w' : World} {b : Nat} {ST : TypeId} {r : List (Int × Int)} (h : RowB w b ST r) (hh : w'.heap[b]? = w.heap[b]?) : RowB w' b ST r := by
  obtain ⟨cs, h1, h2⟩ := h
  exact ⟨cs, hh.trans h1, h2⟩
theorem RowB.lt {w : World} {b : Nat} {ST : TypeId} {r : List (Int × Int)} (h : RowB w b ST r) : b < w.heap.size := by
  obtain ⟨cs, h1, _⟩ := h
  exact (Array.getElem?_eq_some_iff.1 h1).1
theorem RowB.rowAt {w : World} {b : Nat} {ST : TypeId} {r : List (Int × Int)} (h : RowB w b ST r) : RowAt w b 0 r.length (fun j => (r.getD j (1, 1)).1) (fun j => (r.getD j (1, 1)).2) := fun j hj => by
  obtain ⟨cs, h1, h2⟩ := h
  have hp : r[j]? = some r[j] := by simp [hj]
  have key : ∀ i v, i < 5 → (stC r[j])[i]? = some v → w.cell? ⟨b, 0 + j * 5 + i, none⟩ = some v := fun i v hi hv => by
    have h3 := stCells_get r j r[j] hp i v hv
    rw [← h2, List.getElem?_take, if_pos (by omega)] at h3
    have h4 : cs[j * 5 + i]? = some v := by simpa using h3
    simp [World.cell?, h1, h4]
  have e : r.getD j (1, 1) = r[j] := by simp [hj]
  simp only [e]
  exact ⟨key 0 _ (by omega) rfl, key 1 _ (by omega) rfl, key 2 _ (by omega) rfl, key 3 _ (by omega) rfl, key 4 _ (by omega) rfl⟩

/-- The rows that are done, as the slices xs; none of them is the block that u owns. -/
def RowsDone (w : World) (ST : TypeId) (R : List (List (Int × Int))) (u : Value) (xs : List Value) : Prop :=
  ∀ (i : Nat) (r : List (Int × Int)), R[i]? = some r → ∃ (ra : Option Addr) (rc : Nat), xs[i]? = some (Value.slice ra r.length rc) ∧ r.length ≤ rc ∧ (r = [] ∨ ∃ b, ra = some ⟨b, 0, none⟩ ∧ RowB w b ST r ∧ some b ≠ u.ownBlock)
theorem RowsDone.nil (w : World) (ST : TypeId) (u : Value) : RowsDone w ST [] u [] := fun i r h => by simp at h
theorem RowsDone.mono {w w' : World} {ST : TypeId} {R : List (List (Int × Int))} {u u' : Value} {xs : List Value} (h : RowsDone w ST R u xs)
    (hk : ∀ b r, RowB w b ST r → some b ≠ u.ownBlock → RowB w' b ST r ∧ some b ≠ u'.ownBlock) : RowsDone w' ST R u' xs := fun i r hr => by
  obtain ⟨ra, rc, h1, h2, h3⟩ := h i r hr
  refine ⟨ra, rc, h1, h2, ?_⟩
  rcases h3 with h3 | ⟨b, h3, h4, h5⟩
  · exact .inl h3
  · exact .inr ⟨b, h3, hk b r h4 h5⟩
/-- The row that is being read is done: u is given up. -/
theorem RowsDone.snoc {w : World} {ST : TypeId} {R : List (List (Int × Int))} {q : List (Int × Int)} {u : Value} {xs : List Value} {base : Nat} (h : RowsDone w ST R u xs) (hl : xs.length = R.length) (hu : w.ownsRow base ST 5 u q.length (stCells q)) :
    RowsDone w ST (R ++ [q]) (.slice none 0 0) (xs ++ [u]) := fun i r hr => by
  by_cases hi : i < R.length
  · rw [List.getElem?_append_left hi] at hr
    obtain ⟨ra, rc, h1, h2, h3⟩ := h i r hr
    refine ⟨ra, rc, by rw [List.getElem?_append_left (by omega)]; exact h1, h2, ?_⟩
    rcases h3 with h3 | ⟨b, h3, h4, h5⟩
    · exact .inl h3
    · exact .inr ⟨b, h3, h4, by simp [Value.ownBlock]⟩
  · have hi2 : i = R.length := by
      have := (List.getElem?_eq_some_iff.1 hr).1
      simp at this
      omega
    subst hi2
    rw [List.getElem?_append_right (Nat.le_refl _)] at hr
    obtain rfl : q = r := by simpa using hr
    have hx : (xs ++ [u])[R.length]? = some u := by rw [List.getElem?_append_right (by omega), hl]; simp
    rcases hu.2 with ⟨rfl, h0⟩ | ⟨g, cap, cur, rfl, _, hgb, hcap, _, _, ht⟩
    · refine ⟨none, 0, by rw [hx, h0], by omega, .inl (List.eq_nil_of_length_eq_zero h0)⟩
    · exact ⟨_, _, hx, hcap, .inr ⟨g, rfl, ⟨cur, hgb, ht⟩, by simp [Value.ownBlock]⟩⟩

end Go.Proofs.Ytblcphibkcjmdaa

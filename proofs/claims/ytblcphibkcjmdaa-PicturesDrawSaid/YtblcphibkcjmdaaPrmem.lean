/-
  The memory of pictures.Read, round for round.
-/
import Derived.Test.YtblcphibkcjmdaaPparse
namespace Go.Proofs.Ytblcphibkcjmdaa
open Go.RowKit

def isC (o : Obj) : Prop := ∃ cs t f, o = .cells cs t f
theorem owns_same {w w' : World} {base e size n : Nat} {v : Value} {xs : List Value} (h : w.ownsRow base e size v n xs) (hh : ∀ g, v.ownBlock = some g → w'.heap[g]? = w.heap[g]?) : w'.ownsRow base e size v n xs := by
  refine ⟨h.1, ?_⟩
  rcases h.2 with h2 | ⟨g, cap, cur, rfl, h3, h4, h5⟩
  · exact .inl h2
  · exact .inr ⟨g, cap, cur, rfl, h3, (hh g rfl).trans h4, h5⟩
theorem owns_cells {w : World} {base e size n : Nat} {v : Value} {xs : List Value} (h : w.ownsRow base e size v n xs) : ∀ g, v.ownBlock = some g → ∃ cs, w.heap[g]? = some (.cells cs e (0, 0)) := by
  intro g hg
  rcases h.2 with ⟨rfl, _⟩ | ⟨g', cap, cur, rfl, _, h4, _⟩
  · simp [Value.ownBlock] at hg
  · simp [Value.ownBlock] at hg
    subst hg
    exact ⟨cur, h4⟩

structure RMem (z : Nat) (ST ET CT : TypeId) (R : List (List (Int × Int))) (q : List (Int × Int)) (v u : Value) (xs : List Value) (w : World) : Prop where
  box : Boxed w (z + 1) CT v
  rows : w.ownsRow z ET 1 v R.length xs
  row : w.ownsRow z ST 5 u q.length (stCells q)
  done : RowsDone w ST R u xs
  res : Boxed w z CT (.slice none 0 0)

variable {z : Nat} {ST ET CT : TypeId} {R : List (List (Int × Int))} {q : List (Int × Int)} {v u : Value} {xs : List Value} {w w' : World}

theorem RMem.keep (h : RMem z ST ET CT R q v u xs w) (hk : ∀ (k : Nat) (o : Obj), w.heap[k]? = some o → isC o → w'.heap[k]? = some o) : RMem z ST ET CT R q v u xs w' := by
  refine ⟨hk _ _ h.box ⟨_, _, _, rfl⟩, owns_same h.rows fun g hg => ?_, owns_same h.row fun g hg => ?_, h.done.mono fun b r hb hu => ⟨hb.same ?_, hu⟩, hk _ _ h.res ⟨_, _, _, rfl⟩⟩
  · obtain ⟨cs, hc⟩ := owns_cells h.rows g hg
    rw [hc]
    exact hk _ _ hc ⟨_, _, _, rfl⟩
  · obtain ⟨cs, hc⟩ := owns_cells h.row g hg
    rw [hc]
    exact hk _ _ hc ⟨_, _, _, rfl⟩
  · have hb2 := hb
    obtain ⟨cs, hc, _⟩ := hb2
    rw [hc]
    exact hk _ _ hc ⟨_, _, _, rfl⟩
theorem RMem.iterAt (h : RMem z ST ET CT R q v u xs w) {k : Nat} {s : ByteArray} {pos : Nat} (hk : w.heap[k]? = some (.stringIter s pos)) (p2 : Nat) : RMem z ST ET CT R q v u xs (w.iterAt k s p2) :=
  h.keep fun j o hj hc => by
    rw [Lib.iterAt_other]
    · exact hj
    · rintro rfl
      obtain ⟨cs, t, f, rfl⟩ := hc
      rw [hk] at hj
      cases hj

theorem RMem.more (h : RMem z ST ET CT R q v u xs w) {o : Obj} {u' : Value} {p : Int × Int} (hg : (w.alloc o).grownBy w' u.ownBlock) (ho : w'.ownsRow z ST 5 u' (q.length + 1) (stCells q ++ stC p))
    (hb : u'.ownBlock = u.ownBlock ∨ u'.ownBlock = some (w.alloc o).heap.size) (h1 : ST ≠ ET) (h2 : ST ≠ CT) : RMem z ST ET CT R (q ++ [p]) v u' xs w' := by
  have key : ∀ (k : Nat) (cs : Array Value) (t : TypeId), w.heap[k]? = some (.cells cs t (0, 0)) → some k ≠ u.ownBlock → w'.heap[k]? = some (.cells cs t (0, 0)) := fun k cs t hk hu => by
    have hlt := (Array.getElem?_eq_some_iff.1 hk).1
    rw [hg.block k (by rw [World.size_alloc]; omega) hu, Below.heap_alloc w o k hlt, hk]
  have ty : ∀ (k : Nat) (cs : Array Value) (t : TypeId), w.heap[k]? = some (.cells cs t (0, 0)) → ST ≠ t → some k ≠ u.ownBlock := fun k cs t hk ht hu => by
    obtain ⟨cs2, hc⟩ := owns_cells h.row k hu.symm
    rw [hk] at hc
    simp at hc
    exact ht hc.2.symm
  refine ⟨key _ _ _ h.box (ty _ _ _ h.box h2), owns_same h.rows fun g hgg => ?_, by rw [List.length_append, stCells_snoc]; exact ho, h.done.mono fun b r hrb hu => ?_, key _ _ _ h.res (ty _ _ _ h.res h2)⟩
  · obtain ⟨cs, hc⟩ := owns_cells h.rows g hgg
    rw [hc]
    exact key _ _ _ hc (ty _ _ _ hc h1)
  · have hrb2 := hrb
    obtain ⟨cs, hc, _⟩ := hrb2
    refine ⟨hrb.same (by rw [hc]; exact key _ _ _ hc hu), ?_⟩
    rcases hb with hb | hb
    · rw [hb]; exact hu
    · rw [hb]
      intro e
      have := hrb.lt
      have e2 := Option.some.inj e
      rw [World.size_alloc] at e2
      omega

theorem RMem.line (h : RMem z ST ET CT R q v u xs w) {o : Obj} {v' : Value} (hz : z ≤ w.heap.size) (hg : (w.alloc o).grownBy w' v.ownBlock) (ho : w'.ownsRow z ET 1 v' (R.length + 1) (xs ++ [u])) (h1 : ET ≠ ST) (h2 : CT ≠ ET) (h3 : CT ≠ ST) :
    Boxed w' (z + 1) CT v ∧ RMem z ST ET CT (R ++ [q]) [] v' (.slice none 0 0) (xs ++ [u]) (w'.setCell ⟨z + 1, 0, none⟩ v') := by
  obtain ⟨a1, a2, a3, a4, a5⟩ := Boxed.appended h.box h2 h.rows hz (Nat.le_succ _) ho hg
  have key : ∀ (k : Nat) (cs : Array Value) (t : TypeId), w.heap[k]? = some (.cells cs t (0, 0)) → some k ≠ v.ownBlock → k ≠ z + 1 → (w'.setCell ⟨z + 1, 0, none⟩ v').heap[k]? = some (.cells cs t (0, 0)) := fun k cs t hk hu hz1 => by
    have hlt := (Array.getElem?_eq_some_iff.1 hk).1
    rw [Below.heap_setCell _ _ _ k hz1, hg.block k (by rw [World.size_alloc]; omega) hu, Below.heap_alloc w o k hlt, hk]
  have ty : ∀ (k : Nat) (cs : Array Value) (t : TypeId), w.heap[k]? = some (.cells cs t (0, 0)) → ET ≠ t → some k ≠ v.ownBlock := fun k cs t hk ht hu => by
    obtain ⟨cs2, hc⟩ := owns_cells h.rows k hu.symm
    rw [hk] at hc
    simp at hc
    exact ht hc.2.symm
  have hbx : w.heap[z + 1]? = some (.cells #[v] CT (0, 0)) := h.box
  refine ⟨a1, a2, by rw [List.length_append]; exact a3, ⟨rfl, .inl ⟨rfl, rfl⟩⟩, (h.done.snoc (by simpa using h.rows.1) h.row).mono fun b r hrb hu => ⟨hrb.same ?_, hu⟩, key _ _ _ h.res (ty _ _ _ h.res h2.symm) (by omega)⟩
  have hrb2 := hrb
  obtain ⟨cs, hc, _⟩ := hrb2
  rw [hc]
  refine key _ _ _ hc (ty _ _ _ hc h1) ?_
  rintro rfl
  rw [hbx] at hc
  simp at hc
  exact h3 hc.2

theorem iter_kept {s : ByteArray} {pos k : Nat} {o : Obj} {blk : Option Nat} (hit : w.heap[k]? = some (.stringIter s pos)) (hg : (w.alloc o).grownBy w' blk) (hb : ∀ g, blk = some g → ∃ cs e, w.heap[g]? = some (.cells cs e (0, 0))) : w'.heap[k]? = some (.stringIter s pos) := by
  have hlt := (Array.getElem?_eq_some_iff.1 hit).1
  rw [hg.block k (by rw [World.size_alloc]; omega) ?_, Below.heap_alloc w o k hlt, hit]
  intro e
  obtain ⟨cs, t, hc⟩ := hb k e.symm
  rw [hit] at hc
  cases hc

end Go.Proofs.Ytblcphibkcjmdaa

/-
  Small general lemmas: a block of the heap that is a row of cells which nothing has frozen; what a store, a new block, a draw and an append within the capacity do to it.
-/
import Derived.Handy
import Derived.WalkSpells
import Derived.WalkSmall
import Derived.WalkLawsBesides
import Derived.Lib.Hide
import Derived.Deep.QuietTactic
import Derived.BigQuiet
namespace Go.Proofs.Ytblcphibkcjmdaa
open Go.RowKit

theorem ret_int {k : IntKind} {a b : Int} (h : a = b) : Ending.returned (.int k a) = .returned (.int k b) := by rw [h]
theorem ret_bool {a b : Bool} (h : a = b) : Ending.returned (.bool a) = .returned (.bool b) := by rw [h]

/-- Block g holds the cells cs, of elements of type e; nothing of it is frozen. -/
def Row (w : World) (g : Nat) (e : TypeId) (cs : List Value) : Prop := w.heap[g]? = some (.cells cs.toArray e (0, 0))

section
variable {w w' : World} {g e : Nat} {cs : List Value}
theorem Row.to {ds : List Value} (h : Row w g e cs) (hc : cs = ds) : Row w g e ds := hc ▸ h
theorem Row.lt (h : Row w g e cs) : g < w.heap.size := (Array.getElem?_eq_some_iff.1 h).1
theorem Row.cell (h : Row w g e cs) {i : Nat} {v : Value} (hi : cs[i]? = some v) : w.cell? ⟨g, i, none⟩ = some v := by
  have h' : w.heap[g]? = some (.cells cs.toArray e (0, 0)) := h
  simp [World.cell?, h', hi]
theorem Row.cellD (h : Row w g e cs) {i : Nat} (hi : i < cs.length) : w.cell? ⟨g, i, none⟩ = some (cs[i]) := h.cell (by simp [hi])
theorem Row.frozen (h : Row w g e cs) (i : Nat) : w.frozen? ⟨g, i, none⟩ = false := by
  have h' : w.heap[g]? = some (.cells cs.toArray e (0, 0)) := h
  simp [World.frozen?, h']
theorem Row.of_heap (h : Row w g e cs) (hh : w'.heap[g]? = w.heap[g]?) : Row w' g e cs := hh.trans h
theorem Row.below (h : Row w g e cs) {B : Nat} (hb : Below B w w') (hg : g < B) : Row w' g e cs := h.of_heap (hb.block g hg)
theorem Row.drew (h : Row w g e cs) : Row w.drew g e cs := h
theorem Row.drewN (h : Row w g e cs) (n : Nat) : Row (w.drewN n) g e cs := h
theorem Row.alloc (h : Row w g e cs) (o : Obj) : Row (w.alloc o) g e cs := h.of_heap (Below.heap_alloc w o g h.lt)
theorem Row.setCell_other (h : Row w g e cs) {a : Addr} (ha : g ≠ a.block) (v : Value) : Row (w.setCell a v) g e cs := h.of_heap (Below.heap_setCell w a v g ha)
theorem Row.setCell (h : Row w g e cs) (i : Nat) (v : Value) : Row (w.setCell ⟨g, i, none⟩ v) g e (cs.set i v) := by
  have h' : w.heap[g]? = some (.cells cs.toArray e (0, 0)) := h
  obtain ⟨hlt, hge⟩ := Array.getElem?_eq_some_iff.1 h'
  unfold Row World.setCell
  rw [Array.getElem?_modify, if_pos rfl, h']
  simp
theorem Row.new (w : World) (e : TypeId) (cs : List Value) : Row (w.alloc (.cells cs.toArray e)) w.heap.size e cs := heap_alloc_new w _
theorem Row.setRow (h : Row w g e cs) (ds : List Value) : Row (w.setRow g ds.toArray) g e ds := setRow_heap w g _ _ e _ h
theorem Row.setRow_other (h : Row w g e cs) {k : Nat} (hk : g ≠ k) (ds : Array Value) : Row (w.setRow k ds) g e cs := h.of_heap (Go.setRow_other w k g ds hk)
end

theorem below_setRow {B g : Nat} {w0 w : World} (hb : Below B w0 w) (hBg : B ≤ g) (cs : Array Value) : Below B w0 (w.setRow g cs) :=
  hb.trans ⟨rfl, rfl, rfl, by simp [World.setRow], fun k hk => setRow_other w g k cs (by omega)⟩

theorem add_zero_addr (g k : Nat) : (⟨g, 0, none⟩ : Addr).add k = ⟨g, k, none⟩ := by
  unfold Addr.add
  split <;> simp_all

/-- The cells of n numbers. -/
def ints (n : Nat) (f : Nat → Int) : List Value := (List.range n).map fun i => Value.int .i64 (f i)
def upd (f : Nat → Int) (i : Nat) (x : Int) : Nat → Int := fun j => if j = i then x else f j
theorem ints_len (n : Nat) (f : Nat → Int) : (ints n f).length = n := by simp [ints]
theorem ints_get {n : Nat} (f : Nat → Int) {i : Nat} (h : i < n) : (ints n f)[i]? = some (.int .i64 (f i)) := by simp [ints, h]
theorem ints_set (n : Nat) (f : Nat → Int) (i : Nat) (x : Int) : (ints n f).set i (.int .i64 x) = ints n (upd f i x) := by
  apply List.ext_getElem?
  intro j
  simp only [ints, List.getElem?_set, List.length_map, List.length_range, List.getElem?_map, upd]
  by_cases h : i = j
  · subst h; by_cases h2 : i < n <;> simp [h2]
  · have : ¬ j = i := fun e => h e.symm
    by_cases h2 : j < n <;> simp [h, this, h2]
theorem ints_congr {n : Nat} {f g : Nat → Int} (h : ∀ i, i < n → f i = g i) : ints n f = ints n g := by
  apply List.map_congr_left
  intro i hi
  rw [h i (List.mem_range.1 hi)]
theorem ints_snoc (n : Nat) (f : Nat → Int) : ints (n + 1) f = ints n f ++ [.int .i64 (f n)] := by simp [ints, List.range_succ]

/-- The cells of a list of numbers. -/
def vals (l : List Int) : List Value := l.map (Value.int .i64)
theorem vals_len (l : List Int) : (vals l).length = l.length := by simp [vals]
theorem vals_ints (l : List Int) : vals l = ints l.length (fun i => l.getD i 0) := by
  apply List.ext_getElem?
  intro j
  by_cases h : j < l.length <;> simp [vals, ints, h]

theorem made_zero (n : Nat) : madeCells #[Value.int .i64 0] (n * 1) = (ints n fun _ => 0).toArray := by
  apply Array.ext'
  simp [madeCells, ints]
  intro a _
  simp [Nat.mod_one]

end Go.Proofs.Ytblcphibkcjmdaa

/-
  Contracts as the law on drawings wants them.
-/
import Derived.Deep.DeepCutAuto
import Derived.Test.YtblcphibkcjmdaaPof
namespace Go.Proofs.Ytblcphibkcjmdaa
open Go.RowKit

def ofK (len m : Nat) (B : Nat → Nat) (i j : Nat) : Int := (ofS len B (i * m + j)).1
def ofY (len m : Nat) (B : Nat → Nat) (i j : Nat) : Int := (ofS len B (i * m + j)).2
def ofL (m : Nat) (_ : Nat) : Nat := m

theorem of_simple (n len m : Nat) (B : Nat → Nat) (hm : m ≤ 8) : SimpleChart n (ofL m) (ofK len m B) (ofY len m B) := fun i _ => ⟨fun j _ => ofS_simple len B _, by unfold ofL; omega⟩
theorem of_valid (Hg m : Nat) (hm : 1 ≤ m ∧ m ≤ 8) : ValidC (1 + 2 * (Hg % 5)) (ofL m) := ⟨by omega, by omega, fun i _ => by unfold ofL; omega, fun i _ => rfl⟩

def OfChart (n m len : Nat) (B : Nat → Nat) (w : World) (e : Ending) (w' : World) : Prop :=
  ∃ g cap, e = .returned (.agg #[.slice (some ⟨g, 0, none⟩) n cap]) ∧ g < w'.heap.size ∧ ChartAt w' g 0 n (ofL m) (ofK len m B) (ofY len m B) ∧ Below w.heap.size w w'

theorem of_chart (Wd Hg : Nat) (hW : Wd < 256) (hH : Hg < 256) (ao : Option Addr) (len cap : Nat) (B : Nat → Nat) (w : World) (hlen : len ≤ 9223372036854775807) (hb : BytesV w ao len B) (hB8 : ∀ t, B t < 256) :
    Calls Try.prog 5 #[.agg #[.int .u8 Wd, .int .u8 Hg, .slice ao len cap]] w (OfChart (1 + 2 * (Hg % 5)) (1 + Wd % 8) len B w) := by
  refine (of_any Wd Hg hW hH ao len cap B w hlen hb hB8).mono ?_
  obtain ⟨n, hn⟩ : ∃ n, 1 + 2 * (Hg % 5) = n + 1 := ⟨2 * (Hg % 5), by omega⟩
  obtain ⟨m, hm⟩ : ∃ m, 1 + Wd % 8 = m := ⟨_, rfl⟩
  rw [hn, hm]
  rintro e w' ⟨v, xs, rfl, ho, hd, hB⟩
  obtain ⟨g, cp, rfl⟩ := ownsRow_succ ho
  obtain ⟨N, f, hN, hcap, hrow, hf⟩ := own_row ho
  refine ⟨g, cp, rfl, hrow.lt, fun i hi => ?_, hB⟩
  have e1 : (ofRows len m B (n + 1))[i]? = some (ofRow len m B i m) := by simp [ofRows, hi]
  obtain ⟨ra, rc, h1, h2, h3⟩ := hd i _ e1
  rw [ofRow_len] at h1 h2
  refine ⟨ra, rc, h2, ?_, ?_⟩
  · rw [Nat.zero_add, hrow.cell (vrow_get f (show i < N by omega)), hf i _ h1]
    rfl
  · rcases h3 with h3 | ⟨b, h3, h4, _⟩
    · left
      have : (ofRow len m B i m).length = 0 := by rw [h3]; rfl
      rw [ofRow_len] at this
      exact this
    · refine .inr ⟨b, 0, h3, h4.lt, fun j hj => ?_⟩
      have hj2 : j < m := hj
      have h5 := h4.rowAt j (by rw [ofRow_len]; exact hj2)
      have e2 : (ofRow len m B i m).getD j (1, 1) = ofS len B (i * m + j) := by simp [ofRow, hj2]
      simp only [e2] at h5
      exact h5

theorem drawn_size (n : Nat) (L : Nat → Nat) (K Y : Nat → Nat → Int) (hn : n ≤ 31) (hL : ∀ i, L i ≤ 16) (k : Nat) (hk : k ≤ n) : (strOfNums (drawnI L K Y (back n k))).size ≤ 1000 := by
  rw [strOfNums_size]
  have h1 := drawnI_len L K Y 16 hL (back n k)
  rw [back_len] at h1
  omega

theorem read_want (n m : Nat) (K Y : Nat → Nat → Int) (w : World) (hs : SimpleChart n (ofL m) K Y) (hv : ValidC n (ofL m)) :
    Calls Try.prog 8 #[.string (strOfNums (drawnI (ofL m) K Y (back n n)))] w
      (fun e w' => ∃ g, e = .returned (.tuple #[.agg #[.slice (some ⟨g, 0, none⟩) n n], .int .i64 0]) ∧ ChartV w' (some ⟨g, 0, none⟩) n (ofL m) K Y ∧ Below w.heap.size w w') := by
  have hsz := drawn_size n (ofL m) K Y hv.2.1 (fun _ => by have := hv.2.2.1 0 (by have := hv.1; omega); exact this.2) n (Nat.le_refl _)
  refine (read_any _ w (by omega)).mono ?_
  rintro e w' ⟨h | ⟨h, _⟩, hB⟩
  · obtain ⟨R, g, hR, rfl, hc, _⟩ := h
    obtain ⟨h1, h2⟩ := read_back (fun i hi => (hs i hi).1) hv hR hc
    exact ⟨g, by rw [h1], h2, hB⟩
  · exfalso
    refine h ⟨rowsP n (ofL m) K Y, ?_⟩
    rw [bI_str _ (drawnI_bd _ _ _ _ fun i hi => (hs i (back_lt n i hi)).1)]
    exact read_drawn n _ K Y (fun i hi => (hs i hi).1) hv

theorem draw_read (s : ByteArray) (R : List (List (Int × Int))) (g : Nat) (w : World) (hR : ReadOk (bI s) R) (hc : ChartV w (some ⟨g, 0, none⟩) R.length (Lr R) (Kr R) (Yr R)) (hs : SimpleChart R.length (Lr R) (Kr R) (Yr R)) :
    Calls Try.prog 9 #[.agg #[.slice (some ⟨g, 0, none⟩) R.length R.length]] w (fun e w' => e = .returned (.string s) ∧ Below w.heap.size w w') := by
  refine (draw_yes _ _ _ _ _ _ w hc hs hR.2).mono ?_
  rintro e w' ⟨rfl, hB⟩
  exact ⟨by rw [draw_back hR], hB⟩

theorem ChartAt.up {w w' : World} {b off n : Nat} {L : Nat → Nat} {K Y : Nat → Nat → Int} (h : ChartAt w b off n L K Y) (hb : b < w.heap.size) (hB : Below w.heap.size w w') : ChartAt w' b off n L K Y := h.below hB (Nat.le_refl _) hb

def ColPost (w0 w : World) (n : Nat) (E : TypeId) (L : Nat → Nat) (V : Nat → Nat → Value) (e : Ending) (w' : World) : Prop :=
  ∃ g, e = .returned (.slice (some ⟨g, 0, none⟩) n n) ∧ MatAt w' g n E L V ∧ g < w'.heap.size ∧ Below w.heap.size w w' ∧ Below w0.heap.size w0 w'
theorem colours_at (n cap b m : Nat) (K Y : Nat → Nat → Int) (w0 w : World) (hn : n ≤ 1000) (hm : 1 ≤ m) (hb : b < w0.heap.size) (hc : ChartAt w0 b 0 n (ofL m) K Y) (hs : SimpleChart n (ofL m) K Y) (hB : Below w0.heap.size w0 w) :
    Calls Try.prog 6 #[.agg #[.slice (some ⟨b, 0, none⟩) n cap]] w (ColPost w0 w n 5 (ofL m) (yarnV Y)) := by
  have hsz := hB.size
  refine (colours_any n cap b 0 (ofL m) K Y w hn (by omega) (hc.up hb hB) hs (fun _ _ => hm)).mono ?_
  rintro e w' ⟨g, rfl, h1, h2, h3⟩
  exact ⟨g, rfl, h1, h2, h3, hB.trans (h3.mono hsz)⟩
theorem relief_at (n cap b m : Nat) (K Y : Nat → Nat → Int) (w0 w : World) (hn : n ≤ 1000) (hm : 1 ≤ m) (hb : b < w0.heap.size) (hc : ChartAt w0 b 0 n (ofL m) K Y) (hs : SimpleChart n (ofL m) K Y) (hB : Below w0.heap.size w0 w) :
    Calls Try.prog 7 #[.agg #[.slice (some ⟨b, 0, none⟩) n cap]] w (ColPost w0 w n 4 (ofL m) (purlV K)) := by
  have hsz := hB.size
  refine (relief_any n cap b 0 (ofL m) K Y w hn (by omega) (hc.up hb hB) hs (fun _ _ => hm)).mono ?_
  rintro e w' ⟨g, rfl, h1, h2, h3⟩
  exact ⟨g, rfl, h1, h2, h3, hB.trans (h3.mono hsz)⟩

end Go.Proofs.Ytblcphibkcjmdaa

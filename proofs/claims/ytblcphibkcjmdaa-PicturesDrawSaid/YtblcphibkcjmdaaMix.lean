/-
  A region that draws its order, of which some operations only read ('still') and the others stand in one order with everything: one walk in the order of the text serves every order.
-/
import Derived.Still
import Derived.StillTail
import Derived.StillTactics
import Derived.WalkKit
namespace Go.Proofs.Ytblcphibkcjmdaa
open Go
section
variable {P : Program} {ops : Array Oper} {md : Region.Mode} {Q : Exit → Act → World → Prop} {S : Nat → Bool}

inductive Reach (md : Region.Mode) (ops : Array Oper) : Nat → Nat → Prop
  | edge {j : Nat} {oj : Oper} {e : Edge} (hj : ops[j]? = some oj) (he : e ∈ oj.after) (hb : Region.binds md e = true) : Reach md ops j e.on
  | step {j i : Nat} {oj : Oper} {e : Edge} (hj : ops[j]? = some oj) (he : e ∈ oj.after) (hb : Region.binds md e = true) (h : Reach md ops e.on i) : Reach md ops j i

structure Closed (md : Region.Mode) (ops : Array Oper) (listed : Array Bool) : Prop where
  size : listed.size = ops.size
  closed : ∀ j oj, ops[j]? = some oj → listed.getD j false = true → ∀ e ∈ oj.after, Region.binds md e = true → listed.getD e.on false = true

theorem Closed.set {i : Nat} {listed : Array Bool} (inv : Closed md ops listed) (hi : i ∈ Region.ready md ops listed) : Closed md ops (listed.setIfInBounds i true) := by
  obtain ⟨_, oi, hoi, hall⟩ := mem_ready.1 hi
  refine ⟨by simp [inv.size], fun j oj hj hl e he hb => ?_⟩
  by_cases hij : i = j
  · subst hij
    have : oj = oi := Option.some.inj (hj.symm.trans hoi)
    subst this
    exact getD_set_true (hall e he hb)
  · rw [getD_set_ne false hij] at hl
    exact getD_set_true (inv.closed j oj hj hl e he hb)

theorem Reach.listed {listed : Array Bool} (inv : Closed md ops listed) {j i : Nat} (h : Reach md ops j i) : listed.getD j false = true → listed.getD i false = true := by
  induction h with
  | edge hj he hb => exact fun hl => inv.closed _ _ hj hl _ he hb
  | step hj he hb _ ih => exact fun hl => ih (inv.closed _ _ hj hl _ he hb)

theorem Reach.ready {listed : Array Bool} (inv : Closed md ops listed) {j i : Nat} (h : Reach md ops j i) (hj : j ∈ Region.ready md ops listed) : listed.getD i false = true := by
  obtain ⟨_, oj, hoj, hall⟩ := mem_ready.1 hj
  cases h with
  | edge hj he hb =>
    cases Option.some.inj (hoj.symm.trans hj)
    exact hall _ he hb
  | step hj he hb h =>
    cases Option.some.inj (hoj.symm.trans hj)
    exact h.listed inv (hall _ he hb)

theorem unlisted {listed : Array Bool} {i : Nat} (h : i ∈ Region.ready md ops listed) : listed.getD i false = false := getD_both (mem_ready.1 h).1

def stX (P : Program) (ops : Array Oper) (Q : Exit → Act → World → Prop) (S : Nat → Bool) (i : Nat) (K : Act → World → Prop) (a : Act) (w : World) : Prop :=
  if S i = true then stOp P ops w i (fun a' => K a' w) a else wpOp P ops Q i K a w

def wpAnyX (P : Program) (md : Region.Mode) (ops : Array Oper) (Q : Exit → Act → World → Prop) (S : Nat → Bool) : Nat → Array Bool → Act → World → Prop
  | 0, listed, a, w => Region.ready md ops listed = [] ∧ Q .normal a w
  | fuel + 1, listed, a, w =>
    (Region.ready md ops listed = [] → Q .normal a w) ∧
    ∀ i ∈ Region.ready md ops listed, stX P ops Q S i (wpAnyX P md ops Q S fuel (listed.setIfInBounds i true)) a w

theorem wpAny_of_X : ∀ (fuel : Nat) (listed : Array Bool) (a : Act) (w : World), wpAnyX P md ops Q S fuel listed a w → wpAny P md ops Q fuel listed a w
  | 0, _, _, _, h => h
  | fuel + 1, listed, a, w, h => ⟨h.1, fun i hi => by
    have h2 := h.2 i hi
    unfold stX at h2
    split at h2
    · exact wpOp_of_stOp (fun a' h3 => wpAny_of_X fuel _ a' w h3) h2
    · exact wpOp_mono (fun a' w' h3 => wpAny_of_X fuel _ a' w' h3) h2⟩

theorem wpAnyX_first {i : Nat} {oi : Oper} {v : Value} {w : World} (hSi : S i = true) (hi : ops[i]? = some oi) (hsel : ∀ (j : Nat) (o : Oper) cs b, ops[j]? = some o → o.op ≠ .select cs b) :
    ∀ (fuel : Nat) (listed : Array Bool) (a : Act), Closed md ops listed →
      (∀ j oj, ops[j]? = some oj → j ≠ i → listed.getD j true = false → Reach md ops j i ∨ (S j = true ∧ oi.apart ops oj = true)) →
      i ∈ Region.ready md ops listed → YieldsAt P ops w oi v a →
      wpAnyX P md ops Q S fuel (listed.setIfInBounds i true) (a.put oi.dst v) w → wpAnyX P md ops Q S (fuel + 1) listed a w := by
  intro fuel
  induction fuel with
  | zero =>
    intro listed a _ _ hr hy H
    refine ⟨fun h => (by rw [h] at hr; cases hr), fun j hj => ?_⟩
    by_cases hji : j = i
    · subst hji; unfold stX; rw [if_pos hSi]; exact hy.stOp hi H
    · have := ready_mono hj hji
      rw [H.1] at this
      cases this
  | succ fuel ih =>
    intro listed a inv hfree hr hy H
    refine ⟨fun h => (by rw [h] at hr; cases hr), fun j hj => ?_⟩
    by_cases hji : j = i
    · subst hji; unfold stX; rw [if_pos hSi]; exact hy.stOp hi H
    · have h1 := H.2 j (ready_mono hj hji)
      obtain ⟨hjun, oj, hoj, hall⟩ := mem_ready.1 hj
      rcases hfree j oj hoj hji hjun with hre | ⟨hSj, hap⟩
      · have := hre.ready inv hj
        rw [unlisted hr] at this
        cases this
      · unfold stX at h1
        rw [if_pos hSj] at h1
        have h2 := stOp_put hoj hap (fun cs b => hsel i oi cs b hi) (fun cs b => hsel j oj cs b hoj) hy h1
        have hfree' : ∀ k ok, ops[k]? = some ok → k ≠ i → (listed.setIfInBounds j true).getD k true = false → Reach md ops k i ∨ (S k = true ∧ oi.apart ops ok = true) := fun k ok hk hki hun => by
          refine hfree k ok hk hki ?_
          by_cases hjk : j = k
          · subst hjk; exact hjun
          · rw [getD_set_ne true hjk] at hun; exact hun
        unfold stX
        rw [if_pos hSj]
        refine stOp_mono (fun a' h3 => ih (listed.setIfInBounds j true) a' (inv.set hj) hfree' (ready_mono hr (Ne.symm hji)) h3.1 ?_) h2
        rw [Array.setIfInBounds_comm _ _ hji]
        exact h3.2

/-- The order of the text. -/
def wpMixL (P : Program) (ops : Array Oper) (Q : Exit → Act → World → Prop) (S : Nat → Bool) : List Oper → Nat → Act → World → Prop
  | [], _, a, w => Q .normal a w
  | _ :: l, k, a, w => stX P ops Q S k (wpMixL P ops Q S l (k + 1)) a w

def Upto (n k : Nat) (listed : Array Bool) : Prop := listed.size = n ∧ ∀ j, j < n → listed.getD j false = decide (j < k)

theorem upto_d {n k j : Nat} {listed : Array Bool} (h : Upto n k listed) (hj : listed.getD j true = false) : j < n ∧ k ≤ j := by
  obtain ⟨h1, h2⟩ := h
  rcases Nat.lt_or_ge j n with h' | h'
  · refine ⟨h', ?_⟩
    have := h2 j h'
    rw [getD_both hj] at this
    simpa using this
  · simp [Array.getElem?_eq_none (by omega : listed.size ≤ j)] at hj

theorem upto_set {n k : Nat} {listed : Array Bool} (h : Upto n k listed) (hk : k < n) : Upto n (k + 1) (listed.setIfInBounds k true) := by
  obtain ⟨h1, h2⟩ := h
  refine ⟨by simp [h1], fun j hj => ?_⟩
  by_cases hjk : k = j
  · subst hjk
    simp [h1, hk]
  · rw [getD_set_ne false hjk, h2 j hj]
    by_cases h3 : j < k
    · simp [h3, show j < k + 1 by omega]
    · simp [h3, show ¬ j < k + 1 by omega]

structure MixOk (md : Region.Mode) (ops : Array Oper) (S : Nat → Bool) : Prop where
  sel : ∀ (j : Nat) (o : Oper) cs b, ops[j]? = some o → o.op ≠ .select cs b
  back : ∀ j oj, ops[j]? = some oj → ∀ e ∈ oj.after, Region.binds md e = true → e.on < j
  pairs : ∀ i j oi oj, ops[i]? = some oi → ops[j]? = some oj → i < j → Reach md ops j i ∨ (S i = true ∧ S j = true ∧ oi.apart ops oj = true)

theorem upto_closed {k : Nat} {listed : Array Bool} (ok : MixOk md ops S) (h : Upto ops.size k listed) : Closed md ops listed := by
  refine ⟨h.1, fun j oj hj hl e he hb => ?_⟩
  have hlt := (Array.getElem?_eq_some_iff.1 hj).1
  have := ok.back j oj hj e he hb
  rw [h.2 j hlt] at hl
  rw [h.2 e.on (by omega)]
  simp only [decide_eq_true_eq] at hl ⊢
  omega

theorem wpAnyX_lex (ok : MixOk md ops S) : ∀ (l : List Oper) (k : Nat) (listed : Array Bool) (a : Act) (w : World), (∀ j, l[j]? = ops[k + j]?) → k + l.length = ops.size → Upto ops.size k listed →
    wpMixL P ops Q S l k a w → wpAnyX P md ops Q S l.length listed a w
  | [], k, listed, a, w, _, hn, hu, h => by
    refine ⟨?_, h⟩
    refine List.eq_nil_iff_forall_not_mem.2 fun j hj => ?_
    have := upto_d hu (mem_ready.1 hj).1
    simp at hn
    omega
  | o :: l, k, listed, a, w, hl, hn, hu, h => by
    have h0 : ops[k]? = some o := by simpa using (hl 0).symm
    have hk : k < ops.size := (Array.getElem?_eq_some_iff.1 h0).1
    have hr : k ∈ Region.ready md ops listed := by
      refine mem_ready.2 ⟨?_, o, h0, fun e he hb => ?_⟩
      · exact getD_in (by rw [hu.1]; exact hk) (by rw [hu.2 k hk]; simp)
      · have := ok.back k o h0 e he hb
        rw [hu.2 e.on (by omega)]
        simpa using this
    have hl' : ∀ j, l[j]? = ops[k + 1 + j]? := fun j => by have := hl (j + 1); simpa [Nat.add_assoc, Nat.add_comm 1 j] using this
    have hn' : k + 1 + l.length = ops.size := by simp at hn; omega
    simp only [wpMixL] at h
    by_cases hS : S k = true
    · unfold stX at h
      rw [if_pos hS] at h
      obtain ⟨v, hy, hK⟩ := yieldsAt_of_stOp h0 h
      refine wpAnyX_first hS h0 ok.sel l.length listed a (upto_closed ok hu) (fun j oj hj hne hun => ?_) hr hy (wpAnyX_lex ok l (k + 1) _ _ w hl' hn' (upto_set hu hk) hK)
      obtain ⟨_, hkj⟩ := upto_d hu hun
      rcases ok.pairs k j o oj h0 hj (by omega) with h1 | ⟨_, h2, h3⟩
      · exact .inl h1
      · exact .inr ⟨h2, h3⟩
    · refine ⟨fun h1 => (by rw [h1] at hr; cases hr), fun j hj => ?_⟩
      by_cases hjk : j = k
      · subst hjk
        unfold stX at h ⊢
        rw [if_neg hS] at h ⊢
        exact wpOp_mono (fun a' w' h3 => wpAnyX_lex ok l (j + 1) _ a' w' hl' hn' (upto_set hu hk) h3) h
      · exfalso
        obtain ⟨hjun, oj, hoj, _⟩ := mem_ready.1 hj
        obtain ⟨_, hkj⟩ := upto_d hu hjun
        rcases ok.pairs k j o oj h0 hoj (by omega) with h1 | ⟨h2, _, _⟩
        · have := h1.ready (upto_closed ok hu) hj
          rw [unlisted hr] at this
          cases this
        · exact hS h2

/-! The check, as a Bool. -/
def maskOf (acc : List Nat) (o : Oper) : Nat := o.after.toList.foldl (fun s e => if Region.binds .any e then s ||| (2 ^ e.on ||| acc.getD e.on 0) else s) 0
def masks : List Oper → List Nat → List Nat
  | [], acc => acc
  | o :: l, acc => masks l (acc ++ [maskOf acc o])
def pairB (ops : Array Oper) (S : List Bool) (m : List Nat) (i j : Nat) : Bool :=
  (m.getD j 0).testBit i || (S.getD i false && S.getD j false && (match ops[i]?, ops[j]? with | some oi, some oj => oi.apart ops oj | _, _ => true))
def mixB (ops : Array Oper) (S : List Bool) : Bool :=
  Region.noSelect ops && (List.range ops.size).all (fun j => match ops[j]? with | some oj => oj.after.toList.all fun e => !Region.binds .any e || decide (e.on < j) | none => true) &&
  (List.range ops.size).all fun j => (List.range j).all fun i => pairB ops S (masks ops.toList []) i j

theorem maskOf_spec (acc : List Nat) (i : Nat) : ∀ (es : List Edge) (s : Nat), (es.foldl (fun s e => if Region.binds .any e then s ||| (2 ^ e.on ||| acc.getD e.on 0) else s) s).testBit i = true →
    s.testBit i = true ∨ ∃ e ∈ es, Region.binds .any e = true ∧ (e.on = i ∨ (acc.getD e.on 0).testBit i = true)
  | [], s, h => .inl h
  | e :: es, s, h => by
    simp only [List.foldl_cons] at h
    rcases maskOf_spec acc i es _ h with h1 | ⟨e', he, hb, h2⟩
    · split at h1
      · rename_i hb
        rw [Nat.testBit_or, Nat.testBit_or, Nat.testBit_two_pow] at h1
        simp only [Bool.or_eq_true, decide_eq_true_eq] at h1
        rcases h1 with h1 | h1 | h1
        · exact .inl h1
        · exact .inr ⟨e, by simp, hb, .inl h1⟩
        · exact .inr ⟨e, by simp, hb, .inr h1⟩
      · exact .inl h1
    · exact .inr ⟨e', by simp [he], hb, h2⟩

theorem masks_spec : ∀ (l : List Oper) (acc : List Nat), (∀ j, l[j]? = ops[acc.length + j]?) → (∀ j i, (acc.getD j 0).testBit i = true → Reach .any ops j i) →
    ∀ j i, ((masks l acc).getD j 0).testBit i = true → Reach .any ops j i
  | [], _, _, hacc, j, i, h => hacc j i h
  | o :: l, acc, hl, hacc, j, i, h => by
    have h0 : ops[acc.length]? = some o := by simpa using (hl 0).symm
    refine masks_spec l (acc ++ [maskOf acc o]) (fun j => ?_) (fun j i h => ?_) j i h
    · have := hl (j + 1)
      simpa [Nat.add_assoc, Nat.add_comm 1 j] using this
    · by_cases hj : j < acc.length
      · rw [List.getD_eq_getElem?_getD, List.getElem?_append_left hj, ← List.getD_eq_getElem?_getD] at h
        exact hacc j i h
      · by_cases hj2 : j = acc.length
        · subst hj2
          rw [List.getD_eq_getElem?_getD, List.getElem?_append_right (Nat.le_refl _)] at h
          simp only [Nat.sub_self, List.getElem?_cons_zero, Option.getD_some] at h
          rcases maskOf_spec acc i _ 0 h with h1 | ⟨e, he, hb, h2⟩
          · simp at h1
          · rcases h2 with rfl | h2
            · exact .edge h0 (by simpa using he) hb
            · exact .step h0 (by simpa using he) hb (hacc _ _ h2)
        · rw [List.getD_eq_getElem?_getD, List.getElem?_eq_none (by simp; omega)] at h
          simp at h

theorem mixB_ok {S : List Bool} (h : mixB ops S = true) : MixOk .any ops (fun i => S.getD i false) := by
  unfold mixB at h
  simp only [Bool.and_eq_true, List.all_eq_true, List.mem_range] at h
  obtain ⟨⟨h1, h2⟩, h3⟩ := h
  refine ⟨Region.noSelect_spec h1, fun j oj hj e he hb => ?_, fun i j oi oj hi hj hlt => ?_⟩
  · have := h2 j (Array.getElem?_eq_some_iff.1 hj).1
    simp only [hj, List.all_eq_true] at this
    have := this e (by simpa using he)
    simpa [hb] using this
  · have := h3 j (Array.getElem?_eq_some_iff.1 hj).1 i hlt
    unfold pairB at this
    simp only [hi, hj, Bool.or_eq_true, Bool.and_eq_true] at this
    rcases this with h4 | ⟨⟨h5, h6⟩, h7⟩
    · exact .inl (masks_spec ops.toList [] (by simp) (by simp) j i h4)
    · exact .inr ⟨h5, h6, h7⟩

/-! The walk in pieces: (true, n): n operations that are still; (false, n): n others. -/
def wpSegs (P : Program) (ops : Array Oper) (Q : Exit → Act → World → Prop) : List (Bool × Nat) → List Oper → Act → World → Prop
  | [], _, a, w => Q .normal a w
  | (true, n) :: r, l, a, w => wpStill P ops w (fun a' => wpSegs P ops Q r (l.drop n) a' w) (l.take n) a
  | (false, n) :: r, l, a, w => wpList P ops (Exit.then (fun a' w' => wpSegs P ops Q r (l.drop n) a' w') Q) (l.take n) a w
def segS : List (Bool × Nat) → List Bool
  | [] => []
  | (b, n) :: r => List.replicate n b ++ segS r

theorem still_mix {w : World} {R : Act → Prop} {S : Nat → Bool} {rest : List Oper} : ∀ (l : List Oper) (k : Nat) (a : Act), (∀ j, j < l.length → l[j]? = ops[k + j]? ∧ S (k + j) = true) →
    (∀ a, R a → wpMixL P ops Q S rest (k + l.length) a w) → wpStill P ops w R l a → wpMixL P ops Q S (l ++ rest) k a w
  | [], k, a, _, hR, h => by simpa using hR a h
  | o :: l, k, a, hl, hR, h => by
    obtain ⟨h0, hS⟩ := hl 0 (by simp)
    simp only [List.getElem?_cons_zero, Nat.add_zero] at h0 hS
    simp only [List.cons_append, wpMixL, stX, hS, if_true]
    have hst : stOp P ops w k (wpStill P ops w R l) a := by unfold stOp; simp only [← h0]; exact h
    refine stOp_mono (fun a' h' => still_mix l (k + 1) a' (fun j hj => ?_) (fun a h => ?_) h') hst
    · have := hl (j + 1) (by simp; omega)
      simpa [Nat.add_assoc, Nat.add_comm 1 j] using this
    · have := hR a h
      simpa [Nat.add_assoc, Nat.add_comm 1 l.length] using this

theorem wp_then {o : Oper} {a : Act} {w : World} {K N : Act → World → Prop} (h : o.wp P a w K (Exit.then N Q)) : o.wp P a w K Q := by
  unfold Oper.wp at *
  generalize (execOp a.eval o).run P w = r at *
  cases r with
  | ok n w' =>
    cases n <;> simp only [Oper.upon] at h ⊢ <;>
      first
        | exact h
        | exact Calls.mono h (fun e w'' he => by cases e <;> exact he)
        | exact Rows.mono h (fun _ _ he => he)
  | halt x w' => cases x <;> simp only [Oper.upon] at h ⊢ <;> exact h

theorem list_mix {N : Act → World → Prop} {S : Nat → Bool} {rest : List Oper} : ∀ (l : List Oper) (k : Nat) (a : Act) (w : World), (∀ j, j < l.length → l[j]? = ops[k + j]? ∧ S (k + j) = false) →
    (∀ a w, N a w → wpMixL P ops Q S rest (k + l.length) a w) → wpList P ops (Exit.then N Q) l a w → wpMixL P ops Q S (l ++ rest) k a w
  | [], k, a, w, _, hR, h => by simpa using hR a w h
  | o :: l, k, a, w, hl, hR, h => by
    obtain ⟨h0, hS⟩ := hl 0 (by simp)
    simp only [List.getElem?_cons_zero, Nat.add_zero] at h0 hS
    simp only [List.cons_append, wpMixL, stX, hS, Bool.false_eq_true, if_false]
    have hop : wpOp P ops Q k (wpList P ops (Exit.then N Q) l) a w := by
      unfold wpOp
      simp only [← h0]
      simp only [wpList] at h
      split
      · rename_i hw
        rw [if_pos hw] at h
        exact h.imp wp_then (fun ⟨h1, h2⟩ => ⟨h1, h2⟩)
      · rename_i hw
        rw [if_neg hw] at h
        exact h
    refine wpOp_mono (fun a' w' h' => list_mix l (k + 1) a' w' (fun j hj => ?_) (fun a w h => ?_) h') hop
    · have := hl (j + 1) (by simp; omega)
      simpa [Nat.add_assoc, Nat.add_comm 1 j] using this
    · have := hR a w h
      simpa [Nat.add_assoc, Nat.add_comm 1 l.length] using this

theorem segs_mix : ∀ (segs : List (Bool × Nat)) (S : Nat → Bool) (l : List Oper) (k : Nat) (a : Act) (w : World), (∀ j, l[j]? = ops[k + j]?) → (segS segs).length = l.length → (∀ j, j < l.length → S (k + j) = (segS segs).getD j false) →
    wpSegs P ops Q segs l a w → wpMixL P ops Q S l k a w
  | [], S, l, k, a, w, _, hlen, _, h => by
    cases l with
    | nil => exact h
    | cons o l => simp [segS] at hlen
  | (b, n) :: r, S, l, k, a, w, hl, hlen, hS, h => by
    have hn : n ≤ l.length := by simp [segS] at hlen; omega
    have htl : (l.take n).length = n := by simp; omega
    rw [← List.take_append_drop n l]
    have hl2 : ∀ j, (l.drop n)[j]? = ops[k + n + j]? := fun j => by rw [List.getElem?_drop, hl, Nat.add_assoc]
    have hlen2 : (segS r).length = (l.drop n).length := by simp [segS] at hlen ⊢; omega
    have hS2 : ∀ j, j < (l.drop n).length → S (k + n + j) = (segS r).getD j false := fun j hj => by
      have := hS (n + j) (by simp at hj; omega)
      rw [← Nat.add_assoc] at this
      rw [this]
      simp only [segS, List.getD_eq_getElem?_getD]
      rw [List.getElem?_append_right (by simp)]
      simp
    have hS1 : ∀ j, j < n → S (k + j) = b := fun j hj => by
      rw [hS j (by omega)]
      simp only [segS, List.getD_eq_getElem?_getD]
      rw [List.getElem?_append_left (by simpa using hj)]
      simp [hj]
    cases b with
    | true =>
      refine still_mix (l.take n) k a (fun j hj => ⟨?_, hS1 j (by omega)⟩) (fun a' h' => ?_) h
      · rw [List.getElem?_take, if_pos (by omega), hl]
      · rw [htl]; exact segs_mix r S (l.drop n) (k + n) a' w hl2 hlen2 hS2 h'
    | false =>
      refine list_mix (l.take n) k a w (fun j hj => ⟨?_, hS1 j (by omega)⟩) (fun a' w' h' => ?_) h
      · rw [List.getElem?_take, if_pos (by omega), hl]
      · rw [htl]; exact segs_mix r S (l.drop n) (k + n) a' w' hl2 hlen2 hS2 h'

/-- A region that draws, by one walk in the order of the text. -/
theorem wp_region_mix {id : Nat} {a : Act} {w : World} {l : List Oper} (segs : List (Bool × Nat)) (hm : P.follows .mixedOrders = true) (hB : mixB l.toArray (segS segs) = true) (hlen : (segS segs).length = l.length)
    (h : wpSegs P l.toArray Q segs l a w.drew) : (Code.region id l.toArray true).wp P Q a w := by
  refine wp_region_any hm (wpAny_of_X (S := fun i => (segS segs).getD i false) _ _ _ _ ?_)
  have ok := mixB_ok hB
  have := wpAnyX_lex (P := P) (Q := Q) (md := .any) ok l 0 (Array.replicate l.toArray.size false) a w.drew (by simp) (by simp) ⟨by simp, fun j hj => by simp at hj; simp [hj]⟩
    (segs_mix segs (fun i => (segS segs).getD i false) l 0 a w.drew (by simp) hlen (fun j _ => by simp) h)
  simpa using this
end
end Go.Proofs.Ytblcphibkcjmdaa

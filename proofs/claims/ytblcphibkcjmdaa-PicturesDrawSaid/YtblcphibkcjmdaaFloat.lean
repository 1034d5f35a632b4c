/-
  A region that draws its order, of which some operations may stand anywhere ('floats': they yield the same in every world that the others can leave): one walk, in an order of one's own, serves every order.
-/
import Derived.Test.YtblcphibkcjmdaaPerm
namespace Go.Proofs.Ytblcphibkcjmdaa
open Go
section
variable {P : Program} {ops : Array Oper} {md : Region.Mode} {Q : Exit → Act → World → Prop} {M : Nat → Nat} {I : World → Prop}

/-- In every world that meets I the operation takes a to a1. -/
def FY (P : Program) (ops : Array Oper) (I : World → Prop) (o : Oper) (a a1 : Act) : Prop := ∀ w', I w' → ∃ v, YieldsAt P ops w' o v a ∧ a.put o.dst v = a1

def stZ (P : Program) (ops : Array Oper) (Q : Exit → Act → World → Prop) (M : Nat → Nat) (I : World → Prop) (i : Nat) (K : Act → World → Prop) (a : Act) (w : World) : Prop :=
  if M i = 0 then stOp P ops w i (fun a' => K a' w) a
  else if M i = 1 then ∃ a1, (∀ o, ops[i]? = some o → FY P ops I o a a1) ∧ K a1 w
  else wpOp P ops Q i (fun a' w' => I w' ∧ K a' w') a w

theorem stZ_mono {i : Nat} {K K' : Act → World → Prop} {a : Act} {w : World} (hI : I w) (hK : ∀ a w, I w → K a w → K' a w) (h : stZ P ops Q M I i K a w) : stZ P ops Q M I i K' a w := by
  unfold stZ at *
  split
  · rename_i h0
    rw [if_pos h0] at h
    exact stOp_mono (fun a => hK a w hI) h
  · rename_i h0
    rw [if_neg h0] at h
    split
    · rename_i h1
      rw [if_pos h1] at h
      obtain ⟨a1, h2, h3⟩ := h
      exact ⟨a1, h2, hK a1 w hI h3⟩
    · rename_i h1
      rw [if_neg h1] at h
      exact wpOp_mono (fun a w h => ⟨h.1, hK a w h.1 h.2⟩) h

def wpAnyZ (P : Program) (md : Region.Mode) (ops : Array Oper) (Q : Exit → Act → World → Prop) (M : Nat → Nat) (I : World → Prop) : Nat → Array Bool → Act → World → Prop
  | 0, listed, a, w => Region.ready md ops listed = [] ∧ Q .normal a w
  | fuel + 1, listed, a, w =>
    (Region.ready md ops listed = [] → Q .normal a w) ∧
    ∀ i ∈ Region.ready md ops listed, stZ P ops Q M I i (wpAnyZ P md ops Q M I fuel (listed.setIfInBounds i true)) a w

theorem wpAny_of_Z : ∀ (fuel : Nat) (listed : Array Bool) (a : Act) (w : World), I w → wpAnyZ P md ops Q M I fuel listed a w → wpAny P md ops Q fuel listed a w
  | 0, _, _, _, _, h => h
  | fuel + 1, listed, a, w, hI, h => ⟨h.1, fun i hi => by
    have h2 := h.2 i hi
    unfold stZ at h2
    split at h2
    · exact wpOp_of_stOp (fun a' h3 => wpAny_of_Z fuel _ a' w hI h3) h2
    · split at h2
      · obtain ⟨a1, h3, h4⟩ := h2
        obtain ⟨_, oi, hoi, _⟩ := mem_ready.1 hi
        obtain ⟨v, hy, hp⟩ := h3 oi hoi w hI
        subst hp
        exact wpOp_of_stOp (fun a' h5 => h5) (hy.stOp hoi (wpAny_of_Z fuel _ _ w hI h4))
      · exact wpOp_mono (fun a' w' h3 => wpAny_of_Z fuel _ a' w' h3.1 h3.2) h2⟩

theorem put_cancel {a : Act} {x y : Option Tmp} {v u u' : Value} (hxy : ∀ d, x = some d → y ≠ some d) (h : (a.put x v).put y u' = (a.put x v).put y u) : a.put y u' = a.put y u := by
  rw [Act.put_comm a v u' hxy, Act.put_comm a v u hxy] at h
  cases y with
  | none => rfl
  | some d =>
    cases x with
    | none => exact h
    | some e =>
      have hne : e ≠ d := fun he => hxy e rfl (he ▸ rfl)
      by_cases hd : d < a.tmps.size
      · have h2 := congrArg (fun b : Act => b.tmps[d]?) h
        simp [Act.put, Array.getElem?_setIfInBounds, hne, hd] at h2
        rw [h2]
      · simp [Act.put, Array.setIfInBounds, hd]

/-- What j does at 'a.put i v' it does at a, and i may be done behind it. -/
theorem stZ_put {i j : Nat} {oi oj : Oper} {v : Value} (hj : ops[j]? = some oj) (hap : oi.apart ops oj = true) (hno : NoWay Q)
    (hsi : ∀ cs b, oi.op ≠ .select cs b) (hsj : ∀ cs b, oj.op ≠ .select cs b) {K K' : Act → World → Prop} {a : Act} {w : World} (hI : I w) (hM : M j = 0 ∨ M j = 1 ∨ M i = 1)
    (hK : ∀ u w', I w' → (M j = 0 ∨ M j = 1 → w' = w) → K ((a.put oi.dst v).put oj.dst u) w' → K' (a.put oj.dst u) w')
    (hKd : ∀ d w', I w' → M i = 1 → K (({ a.put oi.dst v with defers := d :: (a.put oi.dst v).defers } : Act).put oj.dst undef) w' → K' (({ a with defers := d :: a.defers } : Act).put oj.dst undef) w')
    (h : stZ P ops Q M I j K (a.put oi.dst v) w) : stZ P ops Q M I j K' a w := by
  obtain ⟨h1, h2, h3⟩ := Oper.apart_spec hap
  have same : ∀ w' u, YieldsAt P ops w' oj u (a.put oi.dst v) → YieldsAt P ops w' oj u a := fun w' u hy =>
    hy.of_same (execOp_put oj hsj a oi.dst v h1).symm (wanted_put oj a oi.dst v h1).symm
  unfold stZ at *
  split
  · rename_i h0
    rw [if_pos h0] at h
    obtain ⟨u, hy, hk⟩ := yieldsAt_of_stOp hj h
    exact (same w u hy).stOp hj (hK u w hI (fun _ => rfl) hk)
  · rename_i h0
    rw [if_neg h0] at h
    split
    · rename_i h01
      rw [if_pos h01] at h
      obtain ⟨a2, hf, hk⟩ := h
      obtain ⟨u0, hy0, hp0⟩ := hf oj hj w hI
      refine ⟨a.put oj.dst u0, fun o ho w' hI' => ?_, hK u0 w hI (fun _ => rfl) (hp0 ▸ hk)⟩
      obtain rfl : oj = o := Option.some.inj (hj.symm.trans ho)
      obtain ⟨u1, hy1, hp1⟩ := hf oj hj w' hI'
      exact ⟨u1, same w' u1 hy1, put_cancel h2 (hp1.trans hp0.symm)⟩
    · rename_i h01
      rw [if_neg h01] at h
      have hi1 : M i = 1 := (hM.resolve_left h0).resolve_left h01
      unfold wpOp at *
      simp only [hj] at *
      rw [wanted_put oj a oi.dst v h1] at h
      split
      · rename_i hw
        simp only [hw, if_true] at h
        rcases h with h | ⟨_, h⟩
        · refine .inl ?_
          unfold Oper.wp at *
          rw [execOp_put oj hsj a oi.dst v h1] at h
          generalize (execOp a.eval oj).run P w = r at *
          cases r with
          | ok n w' =>
            cases n <;> simp only [Oper.upon] at h ⊢
            case value u => exact ⟨h.1, hK u w' h.1 (fun hh => (hh.elim h0 h01).elim) h.2⟩
            case skip => exact ⟨h.1, hK undef w' h.1 (fun hh => (hh.elim h0 h01).elim) h.2⟩
            case defer d => exact ⟨h.1, hKd d w' h.1 hi1 h.2⟩
            case enter f args =>
              refine Calls.mono h fun e w'' he => ?_
              cases e with
              | returned u => exact ⟨he.1, hK u w'' he.1 (fun hh => (hh.elim h0 h01).elim) he.2⟩
              | panicked c => exact (hno.1 _ _ _ he).elim
              | outgrown => exact he
            case row r args => exact Rows.mono h fun u w'' he => ⟨he.1, hK u w'' he.1 (fun hh => (hh.elim h0 h01).elim) he.2⟩
          | halt x w' => cases x <;> simp only [Oper.upon] at h ⊢; exact (hno.1 _ _ _ h).elim
        · exact (noWay_lets hno h).elim
      · rename_i hw
        simp only [hw] at h
        exact ⟨h.1, hK undef w h.1 (fun hh => (hh.elim h0 h01).elim) h.2⟩

/-- A float, ready, may be done first. -/
theorem wpAnyZ_float {i : Nat} {oi : Oper} (hMi : M i = 1) (hi : ops[i]? = some oi) (hsel : ∀ (j : Nat) (o : Oper) cs b, ops[j]? = some o → o.op ≠ .select cs b) (hno : NoWay Q) :
    ∀ (fuel : Nat) (listed : Array Bool) (a a1 : Act) (w : World), I w → Closed md ops listed →
      (∀ j oj, ops[j]? = some oj → j ≠ i → listed.getD j true = false → Reach md ops j i ∨ oi.apart ops oj = true) →
      i ∈ Region.ready md ops listed → FY P ops I oi a a1 →
      wpAnyZ P md ops Q M I fuel (listed.setIfInBounds i true) a1 w → wpAnyZ P md ops Q M I (fuel + 1) listed a w := by
  intro fuel
  induction fuel with
  | zero =>
    intro listed a a1 w hI _ _ hr hy H
    refine ⟨fun h => (by rw [h] at hr; cases hr), fun j hj => ?_⟩
    by_cases hji : j = i
    · subst hji
      unfold stZ
      rw [if_neg (by omega), if_pos hMi]
      exact ⟨a1, fun o ho => (Option.some.inj (hi.symm.trans ho)) ▸ hy, H⟩
    · have := ready_mono hj hji
      rw [H.1] at this
      cases this
  | succ fuel ih =>
    intro listed a a1 w hI inv hfree hr hy H
    refine ⟨fun h => (by rw [h] at hr; cases hr), fun j hj => ?_⟩
    by_cases hji : j = i
    · subst hji
      unfold stZ
      rw [if_neg (by omega), if_pos hMi]
      exact ⟨a1, fun o ho => (Option.some.inj (hi.symm.trans ho)) ▸ hy, H⟩
    · have h1 := H.2 j (ready_mono hj hji)
      obtain ⟨hjun, oj, hoj, _⟩ := mem_ready.1 hj
      rcases hfree j oj hoj hji hjun with hre | hap
      · have := hre.ready inv hj
        rw [unlisted hr] at this
        cases this
      · obtain ⟨v, _, hpa⟩ := hy w hI
        subst hpa
        obtain ⟨_, _, p3⟩ := Oper.apart_spec hap
        obtain ⟨_, p2, _⟩ := Oper.apart_spec hap
        have hsi := fun cs b => hsel i oi cs b hi
        have hfree' : ∀ k ok, ops[k]? = some ok → k ≠ i → (listed.setIfInBounds j true).getD k true = false → Reach md ops k i ∨ oi.apart ops ok = true := fun k ok hk hki hun => by
          refine hfree k ok hk hki ?_
          by_cases hjk : j = k
          · subst hjk; exact hjun
          · rw [getD_set_ne true hjk] at hun; exact hun
        refine stZ_put (i := i) hoj hap hno hsi (fun cs b => hsel j oj cs b hoj) hI (.inr (.inr hMi)) (fun u w' hI' _ hk => ?_) (fun d w' hI' _ hk => ?_) h1
        · refine ih (listed.setIfInBounds j true) (a.put oj.dst u) ((a.put oi.dst v).put oj.dst u) w' hI' (inv.set hj) hfree' (ready_mono hr (Ne.symm hji)) (fun w2 hI2 => ?_) ?_
          · obtain ⟨v2, hy2, hp2⟩ := hy w2 hI2
            refine ⟨v2, hy2.of_same (execOp_put oi hsi a oj.dst u p3) (wanted_put oi a oj.dst u p3), ?_⟩
            rw [← hp2, Act.put_comm a v2 u p2]
          · rw [Array.setIfInBounds_comm _ _ hji]
            exact hk
        · have hy' : FY P ops I oi ({ a with defers := d :: a.defers } : Act) ({ a.put oi.dst v with defers := d :: (a.put oi.dst v).defers } : Act) := fun w2 hI2 => by
            obtain ⟨v2, hy2, hp2⟩ := hy w2 hI2
            refine ⟨v2, hy2.of_same rfl rfl, ?_⟩
            rw [← Act.put_defers, hp2]
          refine ih (listed.setIfInBounds j true) _ ((({ a.put oi.dst v with defers := d :: (a.put oi.dst v).defers } : Act)).put oj.dst undef) w' hI' (inv.set hj) hfree' (ready_mono hr (Ne.symm hji)) (fun w2 hI2 => ?_) ?_
          · obtain ⟨v2, hy2, hp2⟩ := hy' w2 hI2
            refine ⟨v2, hy2.of_same (execOp_put oi hsi _ oj.dst undef p3) (wanted_put oi _ oj.dst undef p3), ?_⟩
            rw [← hp2, Act.put_comm _ v2 undef p2]
          · rw [Array.setIfInBounds_comm _ _ hji]
            exact hk

/-- A still operation, ready, may be done first, if no other one may come first. -/
theorem wpAnyZ_still {i : Nat} {oi : Oper} {v : Value} {w : World} (hMi : M i = 0) (hi : ops[i]? = some oi) (hsel : ∀ (j : Nat) (o : Oper) cs b, ops[j]? = some o → o.op ≠ .select cs b) (hno : NoWay Q) (hI : I w) :
    ∀ (fuel : Nat) (listed : Array Bool) (a : Act), Closed md ops listed →
      (∀ j oj, ops[j]? = some oj → j ≠ i → listed.getD j true = false → Reach md ops j i ∨ ((M j = 0 ∨ M j = 1) ∧ oi.apart ops oj = true)) →
      i ∈ Region.ready md ops listed → YieldsAt P ops w oi v a →
      wpAnyZ P md ops Q M I fuel (listed.setIfInBounds i true) (a.put oi.dst v) w → wpAnyZ P md ops Q M I (fuel + 1) listed a w := by
  intro fuel
  induction fuel with
  | zero =>
    intro listed a _ _ hr hy H
    refine ⟨fun h => (by rw [h] at hr; cases hr), fun j hj => ?_⟩
    by_cases hji : j = i
    · subst hji; unfold stZ; rw [if_pos hMi]; exact hy.stOp hi H
    · have := ready_mono hj hji
      rw [H.1] at this
      cases this
  | succ fuel ih =>
    intro listed a inv hfree hr hy H
    refine ⟨fun h => (by rw [h] at hr; cases hr), fun j hj => ?_⟩
    by_cases hji : j = i
    · subst hji; unfold stZ; rw [if_pos hMi]; exact hy.stOp hi H
    · have h1 := H.2 j (ready_mono hj hji)
      obtain ⟨hjun, oj, hoj, _⟩ := mem_ready.1 hj
      rcases hfree j oj hoj hji hjun with hre | ⟨hMj, hap⟩
      · have := hre.ready inv hj
        rw [unlisted hr] at this
        cases this
      · obtain ⟨_, p2, p3⟩ := Oper.apart_spec hap
        have hsi := fun cs b => hsel i oi cs b hi
        have hfree' : ∀ k ok, ops[k]? = some ok → k ≠ i → (listed.setIfInBounds j true).getD k true = false → Reach md ops k i ∨ ((M k = 0 ∨ M k = 1) ∧ oi.apart ops ok = true) := fun k ok hk hki hun => by
          refine hfree k ok hk hki ?_
          by_cases hjk : j = k
          · subst hjk; exact hjun
          · rw [getD_set_ne true hjk] at hun; exact hun
        refine stZ_put (i := i) hoj hap hno hsi (fun cs b => hsel j oj cs b hoj) hI (hMj.imp id .inl) (fun u w' _ hw hk => ?_) (fun d w' _ h1 _ => (by omega)) h1
        obtain rfl := hw hMj
        refine ih (listed.setIfInBounds j true) (a.put oj.dst u) (inv.set hj) hfree' (ready_mono hr (Ne.symm hji)) (hy.of_same (execOp_put oi hsi a oj.dst u p3) (wanted_put oi a oj.dst u p3)) ?_
        rw [Array.setIfInBounds_comm _ _ hji, ← Act.put_comm a v u p2]
        exact hk

def wpOrdZ (P : Program) (ops : Array Oper) (Q : Exit → Act → World → Prop) (M : Nat → Nat) (I : World → Prop) : List Nat → Act → World → Prop
  | [], a, w => Q .normal a w
  | k :: l, a, w => stZ P ops Q M I k (wpOrdZ P ops Q M I l) a w

structure ZOk (md : Region.Mode) (ops : Array Oper) (M : Nat → Nat) (p : List Nat) : Prop where
  sel : ∀ (j : Nat) (o : Oper) cs b, ops[j]? = some o → o.op ≠ .select cs b
  all : ∀ j, j < ops.size → j ∈ p
  lt : ∀ j, j ∈ p → j < ops.size
  once : p.Nodup
  back : ∀ pre k post o, p = pre ++ k :: post → ops[k]? = some o → ∀ e ∈ o.after, Region.binds md e = true → e.on ∈ pre
  pairs : ∀ pre i post j oi oj, p = pre ++ i :: post → j ∈ post → ops[i]? = some oi → ops[j]? = some oj → Reach md ops j i ∨ (oi.apart ops oj = true ∧ (M i = 1 ∨ (M i = 0 ∧ (M j = 0 ∨ M j = 1))))

theorem doneZ_closed {p pre l : List Nat} {listed : Array Bool} (ok : ZOk md ops M p) (hp : p = pre ++ l) (h : Done ops.size pre listed) : Closed md ops listed := by
  refine ⟨h.1, fun j oj hj hl e he hb => ?_⟩
  have hlt := (Array.getElem?_eq_some_iff.1 hj).1
  rw [h.2 j hlt] at hl
  have hjp : j ∈ pre := by simpa using hl
  obtain ⟨p1, p2, rfl⟩ := List.append_of_mem hjp
  have := ok.back p1 j (p2 ++ l) oj (by rw [hp]; simp) hj e he hb
  have hlt2 := ok.lt e.on (by rw [hp]; simp [this])
  rw [h.2 e.on hlt2]
  simp [this]

theorem wpAnyZ_ord {p : List Nat} (ok : ZOk md ops M p) (hno : NoWay Q) : ∀ (l pre : List Nat) (listed : Array Bool) (a : Act) (w : World), I w → p = pre ++ l → Done ops.size pre listed →
    wpOrdZ P ops Q M I l a w → wpAnyZ P md ops Q M I l.length listed a w
  | [], pre, listed, a, w, _, hp, hu, h => by
    refine ⟨?_, h⟩
    refine List.eq_nil_iff_forall_not_mem.2 fun j hj => ?_
    have h1 := done_d hu (mem_ready.1 hj).1
    have h2 := ok.all j h1.1
    rw [hp] at h2
    exact h1.2 (by simpa using h2)
  | k :: l, pre, listed, a, w, hI, hp, hu, h => by
    have hk : k < ops.size := ok.lt k (by rw [hp]; simp)
    have h0 : ops[k]? = some ops[k] := Array.getElem?_eq_getElem hk
    generalize ops[k] = o at h0
    have hnot : k ∉ pre := by
      have := ok.once
      rw [hp, List.nodup_append] at this
      exact fun hm => this.2.2 k hm k (by simp) rfl
    have hr : k ∈ Region.ready md ops listed := by
      refine mem_ready.2 ⟨?_, o, h0, fun e he hb => ?_⟩
      · exact getD_in (by rw [hu.1]; exact hk) (by rw [hu.2 k hk]; simpa using hnot)
      · have hm := ok.back pre k l o hp h0 e he hb
        rw [hu.2 e.on (ok.lt _ (by rw [hp]; simp [hm]))]
        simpa using hm
    have hp' : p = pre ++ [k] ++ l := by rw [hp]; simp
    have hlate : ∀ j, j < ops.size → j ∉ pre → j ≠ k → j ∈ l := fun j hj h1 h2 => by
      have := ok.all j hj
      rw [hp] at this
      simp only [List.mem_append, List.mem_cons] at this
      exact (this.resolve_left h1).resolve_left h2
    simp only [wpOrdZ] at h
    by_cases hM0 : M k = 0
    · unfold stZ at h
      rw [if_pos hM0] at h
      obtain ⟨v, hy, hK⟩ := yieldsAt_of_stOp h0 h
      refine wpAnyZ_still hM0 h0 ok.sel hno hI l.length listed a (doneZ_closed ok hp hu) (fun j oj hj hne hun => ?_) hr hy (wpAnyZ_ord ok hno l (pre ++ [k]) _ _ w hI hp' (done_set hu hk) hK)
      obtain ⟨h1, h2⟩ := done_d hu hun
      rcases ok.pairs pre k l j o oj hp (hlate j h1 h2 hne) h0 hj with h3 | ⟨h3, h4 | ⟨_, h5⟩⟩
      · exact .inl h3
      · omega
      · exact .inr ⟨h5, h3⟩
    · by_cases hM1 : M k = 1
      · unfold stZ at h
        rw [if_neg hM0, if_pos hM1] at h
        obtain ⟨a1, hf, hK⟩ := h
        refine wpAnyZ_float hM1 h0 ok.sel hno l.length listed a a1 w hI (doneZ_closed ok hp hu) (fun j oj hj hne hun => ?_) hr (hf o h0) (wpAnyZ_ord ok hno l (pre ++ [k]) _ _ w hI hp' (done_set hu hk) hK)
        obtain ⟨h1, h2⟩ := done_d hu hun
        rcases ok.pairs pre k l j o oj hp (hlate j h1 h2 hne) h0 hj with h3 | ⟨h3, _⟩
        · exact .inl h3
        · exact .inr h3
      · refine ⟨fun h1 => (by rw [h1] at hr; cases hr), fun j hj => ?_⟩
        by_cases hjk : j = k
        · subst hjk
          exact stZ_mono hI (fun a' w' hI' h3 => wpAnyZ_ord ok hno l (pre ++ [j]) _ a' w' hI' hp' (done_set hu hk) h3) h
        · exfalso
          obtain ⟨hjun, oj, hoj, _⟩ := mem_ready.1 hj
          obtain ⟨h1, h2⟩ := done_d hu hjun
          rcases ok.pairs pre k l j o oj hp (hlate j h1 h2 hjk) h0 hoj with h3 | ⟨_, h4 | ⟨h4, _⟩⟩
          · have := h3.ready (doneZ_closed ok hp hu) hj
            rw [unlisted hr] at this
            cases this
          · exact hM1 h4
          · exact hM0 h4

/-! The check, as a Bool. -/
def pairZ (ops : Array Oper) (M : Nat → Nat) (m : List Nat) (i j : Nat) : Bool :=
  (m.getD j 0).testBit i || ((match ops[i]?, ops[j]? with | some oi, some oj => oi.apart ops oj | _, _ => true) && (M i == 1 || (M i == 0 && (M j == 0 || M j == 1))))
def goZ (ops : Array Oper) (M : Nat → Nat) (m : List Nat) : List Nat → List Nat → Bool
  | _, [] => true
  | pre, k :: post => (match ops[k]? with | some o => o.after.toList.all fun e => !Region.binds .any e || pre.contains e.on | none => false) && post.all (pairZ ops M m k) && goZ ops M m (pre ++ [k]) post
def zB (ops : Array Oper) (M : Nat → Nat) (p : List Nat) : Bool :=
  Region.noSelect ops && (List.range ops.size).all (fun j => p.contains j) && decide p.Nodup && goZ ops M (masks ops.toList []) [] p

theorem goZ_spec {m : List Nat} (hm : ∀ j i, (m.getD j 0).testBit i = true → Reach .any ops j i) : ∀ (l pre0 : List Nat), goZ ops M m pre0 l = true →
    (∀ j, j ∈ l → j < ops.size) ∧ (∀ pre k post o, l = pre ++ k :: post → ops[k]? = some o → ∀ e ∈ o.after, Region.binds .any e = true → e.on ∈ pre0 ++ pre) ∧
    (∀ pre i post j oi oj, l = pre ++ i :: post → j ∈ post → ops[i]? = some oi → ops[j]? = some oj → Reach .any ops j i ∨ (oi.apart ops oj = true ∧ (M i = 1 ∨ (M i = 0 ∧ (M j = 0 ∨ M j = 1)))))
  | [], pre0, _ => ⟨(fun _ hj => nomatch hj), fun pre _ _ _ h => (by cases pre <;> cases h), fun pre _ _ _ _ _ h => (by cases pre <;> cases h)⟩
  | x :: l, pre0, h => by
    simp only [goZ, Bool.and_eq_true] at h
    obtain ⟨⟨h1, h2⟩, h3⟩ := h
    obtain ⟨r1, r2, r3⟩ := goZ_spec hm l (pre0 ++ [x]) h3
    refine ⟨fun j hj => ?_, fun pre k post o hl hk e he hb => ?_, fun pre i post j oi oj hl hj hi hoj => ?_⟩
    · rcases List.mem_cons.1 hj with rfl | hj
      · split at h1
        · rename_i o ho; exact (Array.getElem?_eq_some_iff.1 ho).1
        · cases h1
      · exact r1 j hj
    · cases pre with
      | nil =>
        simp only [List.nil_append, List.cons.injEq] at hl
        obtain ⟨rfl, rfl⟩ := hl
        rw [hk] at h1
        simp only [List.all_eq_true] at h1
        have := h1 e (by simpa using he)
        simpa [hb] using this
      | cons y pre =>
        simp only [List.cons_append, List.cons.injEq] at hl
        obtain ⟨rfl, hl⟩ := hl
        have := r2 pre k post o hl hk e he hb
        simpa using this
    · cases pre with
      | nil =>
        simp only [List.nil_append, List.cons.injEq] at hl
        obtain ⟨rfl, rfl⟩ := hl
        have := List.all_eq_true.1 h2 j hj
        unfold pairZ at this
        simp only [hi, hoj, Bool.or_eq_true, Bool.and_eq_true, beq_iff_eq] at this
        rcases this with h4 | h4
        · exact .inl (hm _ _ h4)
        · exact .inr h4
      | cons y pre =>
        simp only [List.cons_append, List.cons.injEq] at hl
        exact r3 pre i post j oi oj hl.2 hj hi hoj

theorem zB_ok {p : List Nat} (h : zB ops M p = true) : ZOk .any ops M p := by
  unfold zB at h
  simp only [Bool.and_eq_true, List.all_eq_true, List.mem_range, decide_eq_true_eq] at h
  obtain ⟨⟨⟨h1, h2⟩, h3⟩, h4⟩ := h
  obtain ⟨r1, r2, r3⟩ := goZ_spec (masks_spec ops.toList [] (by simp) (by simp)) p [] h4
  exact ⟨Region.noSelect_spec h1, fun j hj => by simpa using h2 j hj, r1, h3, by simpa using r2, r3⟩

/-! The walk in pieces: (0, indices): still; (1, indices): floats, one by one; (2, indices): others, one by one. -/
def modeOf (segs : List (Nat × List Nat)) (i : Nat) : Nat := match segs.find? (fun x => x.2.contains i) with | some x => x.1 | none => 0
def orderZ (segs : List (Nat × List Nat)) : List Nat := segs.flatMap fun x => x.2

def wpFloats (P : Program) (ops : List Oper) (Q : Exit → Act → World → Prop) (I : World → Prop) (next : Act → World → Prop) : List Nat → Act → World → Prop
  | [], a, w => next a w
  | i :: q, a, w => ∃ a1, (∀ w', I w' → wpList P ops.toArray (Exit.then (fun a' w2 => w2 = w' ∧ a' = a1) Q) (picks ops [i]) a w') ∧ wpFloats P ops Q I next q a1 w
def wpOthers (P : Program) (ops : List Oper) (Q : Exit → Act → World → Prop) (I : World → Prop) (next : Act → World → Prop) : List Nat → Act → World → Prop
  | [], a, w => next a w
  | i :: q, a, w => wpList P ops.toArray (Exit.then (fun a' w' => I w' ∧ wpOthers P ops Q I next q a' w') Q) (picks ops [i]) a w
def wpZ (P : Program) (ops : List Oper) (Q : Exit → Act → World → Prop) (I : World → Prop) : List (Nat × List Nat) → Act → World → Prop
  | [], a, w => Q .normal a w
  | (0, q) :: r, a, w => wpList P ops.toArray (Exit.then (fun a' w' => w' = w ∧ wpZ P ops Q I r a' w) Q) (picks ops q) a w
  | (1, q) :: r, a, w => wpFloats P ops Q I (wpZ P ops Q I r) q a w
  | (_, q) :: r, a, w => wpOthers P ops Q I (wpZ P ops Q I r) q a w
def zsB (P : Program) (ops : List Oper) (M : Nat → Nat) : List (Nat × List Nat) → Bool
  | [] => true
  | (b, q) :: r => q.all (fun i => M i == b && decide (i < ops.length)) && (decide (2 ≤ b) || (picks ops q).all (fun o => tame2 P o.op)) && zsB P ops M r

theorem pick_one (l : List Oper) (i : Nat) (h : i < l.length) : picks l [i] = [l[i]] := by
  show (l.drop i).take 1 ++ [] = _
  rw [List.drop_eq_getElem_cons h]
  rfl
theorem picks_cons (l : List Oper) (i : Nat) (q : List Nat) : picks l (i :: q) = picks l [i] ++ picks l q := by simp [picks]

theorem stillZ {w : World} {R : Act → Prop} {rest : List Nat} : ∀ (l : List Oper) (q : List Nat) (a : Act), (∀ j : Nat, l[j]? = (q[j]?).bind (ops[·]?)) → l.length = q.length → (∀ i, i ∈ q → M i = 0) →
    (∀ a, R a → wpOrdZ P ops Q M I rest a w) → wpStill P ops w R l a → wpOrdZ P ops Q M I (q ++ rest) a w
  | [], [], a, _, _, _, hR, h => by simpa using hR a h
  | [], _ :: _, _, _, hlen, _, _, _ => by simp at hlen
  | _ :: _, [], _, _, hlen, _, _, _ => by simp at hlen
  | o :: l, k :: q, a, hl, hlen, hS, hR, h => by
    have h0 : ops[k]? = some o := by simpa using (hl 0).symm
    simp only [List.cons_append, wpOrdZ, stZ, hS k (by simp), if_true]
    have hst : stOp P ops w k (wpStill P ops w R l) a := by unfold stOp; simp only [h0]; exact h
    refine stOp_mono (fun a' h' => stillZ l q a' (fun j => ?_) (by simpa using hlen) (fun i hi => hS i (by simp [hi])) hR h') hst
    have := hl (j + 1)
    simpa using this

theorem pieces_Z {l : List Oper} (hno : NoWay Q) : ∀ (segs : List (Nat × List Nat)) (a : Act) (w : World), zsB P l M segs = true → wpZ P l Q I segs a w → wpOrdZ P l.toArray Q M I (orderZ segs) a w
  | [], _, _, _, h => h
  | (b, q) :: r, a, w, hB, h => by
    simp only [zsB, Bool.and_eq_true, List.all_eq_true, beq_iff_eq, decide_eq_true_eq] at hB
    obtain ⟨⟨h1, h2⟩, h3⟩ := hB
    have e : orderZ ((b, q) :: r) = q ++ orderZ r := by simp [orderZ]
    rw [e]
    match b with
    | 0 =>
      obtain ⟨g1, g2⟩ := picks_get l q fun i hi => (h1 i hi).2
      simp only [wpZ] at h
      have ht : (picks l q).all (fun o => tame2 P o.op) = true := by simpa using h2
      refine stillZ (picks l q) q a g1 g2 (fun i hi => (h1 i hi).1) (fun a' h' => h') (cut_still hno _ _ ht (list_mono (fun a' w' hk => ?_) _ _ _ h))
      exact ⟨hk.1, pieces_Z hno r a' w h3 hk.2⟩
    | 1 =>
      simp only [wpZ] at h
      have ht : ∀ i, i ∈ q → tame2 P ((l[i]?.map Oper.op).getD (.move (.const undef))) = true := by
        have : (picks l q).all (fun o => tame2 P o.op) = true := by simpa using h2
        clear h h2 e
        induction q with
        | nil => intro i hi; cases hi
        | cons k q ih =>
          rw [picks_cons, pick_one l k (h1 k (by simp)).2] at this
          simp only [List.cons_append, List.nil_append, List.all_cons, Bool.and_eq_true] at this
          intro i hi
          rcases List.mem_cons.1 hi with rfl | hi
          · rw [List.getElem?_eq_getElem (h1 i (by simp)).2]; exact this.1
          · exact ih (fun i hi => h1 i (by simp [hi])) this.2 i hi
      clear h2 e
      induction q generalizing a with
      | nil => exact pieces_Z hno r a w h3 h
      | cons k q ih =>
        simp only [wpFloats] at h
        obtain ⟨a1, hf, hn⟩ := h
        have hk := (h1 k (by simp)).2
        simp only [List.cons_append, wpOrdZ, stZ, (h1 k (by simp)).1]
        rw [if_neg (by omega), if_pos trivial]
        refine ⟨a1, fun o ho w' hI' => ?_, ih a1 (fun i hi => h1 i (by simp [hi])) hn (fun i hi => ht i (by simp [hi]))⟩
        have ho' : l[k]? = some o := by simpa using ho
        have hok : l[k] = o := by rw [List.getElem?_eq_getElem hk] at ho'; exact Option.some.inj ho'
        have h5 := hf w' hI'
        rw [pick_one l k hk, hok] at h5
        have ht' := ht k (by simp)
        rw [ho'] at ht'
        have h6 : wpStill P l.toArray w' (fun a' => a' = a1) [o] a := cut_still hno [o] a (by simpa using ht') h5
        have h7 : stOp P l.toArray w' k (fun a' => a' = a1) a := by unfold stOp; simp only [ho]; exact h6
        obtain ⟨v, hy, hp⟩ := yieldsAt_of_stOp ho h7
        exact ⟨v, hy, hp⟩
    | b + 2 =>
      simp only [wpZ] at h
      clear h2 e
      induction q generalizing a w with
      | nil => exact pieces_Z hno r a w h3 h
      | cons k q ih =>
        simp only [wpOthers] at h
        have hk := (h1 k (by simp)).2
        have h0 : l.toArray[k]? = some l[k] := by simp [hk]
        simp only [List.cons_append, wpOrdZ, stZ, (h1 k (by simp)).1]
        rw [if_neg (by omega), if_neg (by omega)]
        rw [pick_one l k hk] at h
        have hop : wpOp P l.toArray Q k (fun a' w' => I w' ∧ wpOthers P l Q I (wpZ P l Q I r) q a' w') a w := by
          unfold wpOp
          simp only [h0]
          simp only [wpList] at h
          split
          · rename_i hw
            rw [if_pos hw] at h
            exact h.imp wp_then (fun ⟨h1, h2⟩ => ⟨h1, h2⟩)
          · rename_i hw
            rw [if_neg hw] at h
            exact h
        exact wpOp_mono (fun a' w' hk' => ⟨hk'.1, ih a' w' (fun i hi => h1 i (by simp [hi])) hk'.2⟩) hop

/-- A region that draws, by one walk in an order of one's own. I: what every world meets that the 'others' leave. -/
theorem wp_region_floats {id : Nat} {a : Act} {w : World} {l : List Oper} (segs : List (Nat × List Nat)) (I : World → Prop) (hm : P.follows .mixedOrders = true) (hB : zB l.toArray (modeOf segs) (orderZ segs) = true) (hT : zsB P l (modeOf segs) segs = true)
    (hno : NoWay Q) (hI : I w.drew) (h : wpZ P l Q I segs a w.drew) : (Code.region id l.toArray true).wp P Q a w := by
  have ok := zB_ok hB
  have hlen : (orderZ segs).length = l.length := by
    have hp : List.Perm (orderZ segs) (List.range l.length) := by
      refine (List.perm_ext_iff_of_nodup ok.once List.nodup_range).2 fun i => ?_
      rw [List.mem_range]
      exact ⟨fun hi => by simpa using ok.lt i hi, fun hi => ok.all i (by simpa using hi)⟩
    simpa using hp.length_eq
  refine wp_region_any hm (wpAny_of_Z (M := modeOf segs) (I := I) _ _ _ _ hI ?_)
  have := wpAnyZ_ord (P := P) (Q := Q) (md := .any) ok hno (orderZ segs) [] (Array.replicate l.toArray.size false) a w.drew hI rfl ⟨by simp, fun j hj => by simp at hj; simp [hj]⟩ (pieces_Z hno segs a w.drew hT h)
  rw [hlen] at this
  simpa using this
end
end Go.Proofs.Ytblcphibkcjmdaa

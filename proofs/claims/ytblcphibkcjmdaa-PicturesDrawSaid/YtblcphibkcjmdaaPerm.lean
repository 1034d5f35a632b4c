/-
  A region that draws its order, of which some operations only move a value: those commute with whatever stores; one walk, in an order of one's own, serves every order.
-/
import Derived.Test.YtblcphibkcjmdaaCut
namespace Go.Proofs.Ytblcphibkcjmdaa
open Go
section
variable {P : Program} {ops : Array Oper} {md : Region.Mode} {Q : Exit → Act → World → Prop} {S : Nat → Bool}

/-- An operation that only moves a value: it asks nothing of the memory, and never fails. -/
def calm (o : Oper) : Bool := match o.op with | .move _ => true | .assign _ => true | _ => false
theorem calm_run {o : Oper} (h : calm o = true) (ρ : Operand → Value) : ∃ v, ∀ w, (execOp ρ o).run P w = .ok (.value v) w := by
  obtain ⟨dst, op, type, pos, after, guard⟩ := o
  cases op <;> simp only [calm, Bool.false_eq_true] at h
  case move x => exact ⟨ρ x, fun w => rfl⟩
  case assign x => exact ⟨ρ x, fun w => rfl⟩
theorem calm_keep {o : Oper} (h : calm o = true) {v : Value} {a : Act} {w : World} (hy : YieldsAt P ops w o v a) (w' : World) : YieldsAt P ops w' o v a := by
  obtain ⟨u, hu⟩ := calm_run (P := P) h a.eval
  rcases hy with ⟨hw, hv | ⟨hv, _⟩ | ⟨f, args, hv, _⟩⟩ | ⟨hw, rfl⟩
  · rw [hu w] at hv
    have : u = v := by simpa using hv
    subst this
    exact .inl ⟨hw, .inl (hu w')⟩
  · rw [hu w] at hv; simp at hv
  · rw [hu w] at hv; simp at hv
  · exact .inr ⟨hw, rfl⟩

theorem noWay_lets (hno : NoWay Q) : ¬ LetsOut Q := fun ⟨_, _, h⟩ => hno.2 _ _ h

theorem wpOp_put {j : Nat} {oi oj : Oper} {v : Value} (hj : ops[j]? = some oj) (hap : oi.apart ops oj = true) (hc : calm oi = true) (hno : NoWay Q)
    (hsi : ∀ cs b, oi.op ≠ .select cs b) (hsj : ∀ cs b, oj.op ≠ .select cs b) {K : Act → World → Prop} {a : Act} {w : World}
    (hy : YieldsAt P ops w oi v a) (h : wpOp P ops Q j K (a.put oi.dst v) w) :
    wpOp P ops Q j (fun a' w' => YieldsAt P ops w' oi v a' ∧ K (a'.put oi.dst v) w') a w := by
  obtain ⟨h1, h2, h3⟩ := Oper.apart_spec hap
  have keep : ∀ (a : Act) w, YieldsAt P ops w oi v a → ∀ u w', YieldsAt P ops w' oi v (a.put oj.dst u) := fun a w hy u w' =>
    calm_keep hc (hy.of_same (execOp_put oi hsi a oj.dst u h3) (wanted_put oi a oj.dst u h3)) w'
  unfold wpOp at *
  simp only [hj] at *
  rw [wanted_put oj a oi.dst v h1] at h
  split
  · rename_i hw
    simp only [hw, if_true] at h
    rcases h with h | ⟨_, h⟩
    · refine .inl ?_
      unfold Oper.wp at *
      rw [execOp_put oj hsj a oi.dst v h1] at h
      generalize (execOp a.eval oj).run P w = r at *
      cases r with
      | ok n w' =>
        cases n <;> simp only [Oper.upon] at h ⊢
        case value u => exact ⟨keep a w hy u w', by rw [← Act.put_comm a v u h2]; exact h⟩
        case skip => exact ⟨keep a w hy _ w', by rw [← Act.put_comm a v undef h2]; exact h⟩
        case defer d =>
          refine ⟨?_, ?_⟩
          · have hy2 : YieldsAt P ops w' oi v ({ a with defers := d :: a.defers }) := by
              refine calm_keep hc (w := w) ?_ w'
              exact hy.of_same rfl rfl
            exact calm_keep hc (hy2.of_same (execOp_put oi hsi _ oj.dst undef h3) (wanted_put oi _ oj.dst undef h3)) w'
          · rw [Act.put_defers] at h
            rw [← Act.put_comm _ v undef h2]
            exact h
        case enter f args =>
          refine Calls.mono h fun e w'' he => ?_
          cases e with
          | returned u => exact ⟨keep a w hy u w'', by rw [← Act.put_comm a v u h2]; exact he⟩
          | panicked c => exact (hno.1 _ _ _ he).elim
          | outgrown => exact he
        case row r args => exact Rows.mono h fun u w'' he => ⟨keep a w hy u w'', by rw [← Act.put_comm a v u h2]; exact he⟩
      | halt x w' => cases x <;> simp only [Oper.upon] at h ⊢; exact (hno.1 _ _ _ h).elim
    · exact (noWay_lets hno h).elim
  · rename_i hw
    simp only [hw] at h
    exact ⟨keep a w hy _ w, by rw [← Act.put_comm a v undef h2]; exact h⟩

theorem stX_put {j : Nat} {oi oj : Oper} {v : Value} (hj : ops[j]? = some oj) (hap : oi.apart ops oj = true) (hc : S j = true ∨ calm oi = true) (hno : NoWay Q)
    (hsi : ∀ cs b, oi.op ≠ .select cs b) (hsj : ∀ cs b, oj.op ≠ .select cs b) {K : Act → World → Prop} {a : Act} {w : World}
    (hy : YieldsAt P ops w oi v a) (h : stX P ops Q S j K (a.put oi.dst v) w) :
    stX P ops Q S j (fun a' w' => YieldsAt P ops w' oi v a' ∧ K (a'.put oi.dst v) w') a w := by
  unfold stX at *
  split
  · rename_i hS
    rw [if_pos hS] at h
    exact stOp_put hj hap hsi hsj hy h
  · rename_i hS
    rw [if_neg hS] at h
    exact wpOp_put hj hap (hc.resolve_left hS) hno hsi hsj hy h
theorem stX_mono {j : Nat} {K K' : Act → World → Prop} {a : Act} {w : World} (hK : ∀ a w, K a w → K' a w) (h : stX P ops Q S j K a w) : stX P ops Q S j K' a w := by
  unfold stX at *
  split
  · rename_i hS
    rw [if_pos hS] at h
    exact stOp_mono (fun a => hK a w) h
  · rename_i hS
    rw [if_neg hS] at h
    exact wpOp_mono hK h

theorem wpAnyX_firstC {i : Nat} {oi : Oper} {v : Value} (hSi : S i = true) (hi : ops[i]? = some oi) (hsel : ∀ (j : Nat) (o : Oper) cs b, ops[j]? = some o → o.op ≠ .select cs b) (hno : NoWay Q) :
    ∀ (fuel : Nat) (listed : Array Bool) (a : Act) (w : World), Closed md ops listed →
      (∀ j oj, ops[j]? = some oj → j ≠ i → listed.getD j true = false → Reach md ops j i ∨ ((S j = true ∨ calm oi = true) ∧ oi.apart ops oj = true)) →
      i ∈ Region.ready md ops listed → YieldsAt P ops w oi v a →
      wpAnyX P md ops Q S fuel (listed.setIfInBounds i true) (a.put oi.dst v) w → wpAnyX P md ops Q S (fuel + 1) listed a w := by
  intro fuel
  induction fuel with
  | zero =>
    intro listed a w _ _ hr hy H
    refine ⟨fun h => (by rw [h] at hr; cases hr), fun j hj => ?_⟩
    by_cases hji : j = i
    · subst hji; unfold stX; rw [if_pos hSi]; exact hy.stOp hi H
    · have := ready_mono hj hji
      rw [H.1] at this
      cases this
  | succ fuel ih =>
    intro listed a w inv hfree hr hy H
    refine ⟨fun h => (by rw [h] at hr; cases hr), fun j hj => ?_⟩
    by_cases hji : j = i
    · subst hji; unfold stX; rw [if_pos hSi]; exact hy.stOp hi H
    · have h1 := H.2 j (ready_mono hj hji)
      obtain ⟨hjun, oj, hoj, hall⟩ := mem_ready.1 hj
      rcases hfree j oj hoj hji hjun with hre | ⟨hSj, hap⟩
      · have := hre.ready inv hj
        rw [unlisted hr] at this
        cases this
      · have h2 := stX_put hoj hap hSj hno (fun cs b => hsel i oi cs b hi) (fun cs b => hsel j oj cs b hoj) hy h1
        have hfree' : ∀ k ok, ops[k]? = some ok → k ≠ i → (listed.setIfInBounds j true).getD k true = false → Reach md ops k i ∨ ((S k = true ∨ calm oi = true) ∧ oi.apart ops ok = true) := fun k ok hk hki hun => by
          refine hfree k ok hk hki ?_
          by_cases hjk : j = k
          · subst hjk; exact hjun
          · rw [getD_set_ne true hjk] at hun; exact hun
        refine stX_mono (fun a' w' h3 => ih (listed.setIfInBounds j true) a' w' (inv.set hj) hfree' (ready_mono hr (Ne.symm hji)) h3.1 ?_) h2
        rw [Array.setIfInBounds_comm _ _ hji]
        exact h3.2

/-- An order of one's own. -/
def wpOrdL (P : Program) (ops : Array Oper) (Q : Exit → Act → World → Prop) (S : Nat → Bool) : List Nat → Act → World → Prop
  | [], a, w => Q .normal a w
  | k :: l, a, w => stX P ops Q S k (wpOrdL P ops Q S l) a w

def Done (n : Nat) (pre : List Nat) (listed : Array Bool) : Prop := listed.size = n ∧ ∀ j, j < n → listed.getD j false = decide (j ∈ pre)

theorem done_d {n j : Nat} {pre : List Nat} {listed : Array Bool} (h : Done n pre listed) (hj : listed.getD j true = false) : j < n ∧ j ∉ pre := by
  obtain ⟨h1, h2⟩ := h
  rcases Nat.lt_or_ge j n with h' | h'
  · refine ⟨h', ?_⟩
    have := h2 j h'
    rw [getD_both hj] at this
    simpa using this
  · simp [Array.getElem?_eq_none (by omega : listed.size ≤ j)] at hj
theorem done_set {n k : Nat} {pre : List Nat} {listed : Array Bool} (h : Done n pre listed) (hk : k < n) : Done n (pre ++ [k]) (listed.setIfInBounds k true) := by
  obtain ⟨h1, h2⟩ := h
  refine ⟨by simp [h1], fun j hj => ?_⟩
  by_cases hjk : k = j
  · subst hjk
    simp [h1, hk]
  · rw [getD_set_ne false hjk, h2 j hj]
    have : ¬ j = k := fun e => hjk e.symm
    simp [this]

structure OrdOk (md : Region.Mode) (ops : Array Oper) (S : Nat → Bool) (p : List Nat) : Prop where
  sel : ∀ (j : Nat) (o : Oper) cs b, ops[j]? = some o → o.op ≠ .select cs b
  all : ∀ j, j < ops.size → j ∈ p
  lt : ∀ j, j ∈ p → j < ops.size
  once : p.Nodup
  back : ∀ pre k post o, p = pre ++ k :: post → ops[k]? = some o → ∀ e ∈ o.after, Region.binds md e = true → e.on ∈ pre
  pairs : ∀ pre i post j oi oj, p = pre ++ i :: post → j ∈ post → ops[i]? = some oi → ops[j]? = some oj → Reach md ops j i ∨ (S i = true ∧ (S j = true ∨ calm oi = true) ∧ oi.apart ops oj = true)

theorem done_closed {p pre l : List Nat} {listed : Array Bool} (ok : OrdOk md ops S p) (hp : p = pre ++ l) (h : Done ops.size pre listed) : Closed md ops listed := by
  refine ⟨h.1, fun j oj hj hl e he hb => ?_⟩
  have hlt := (Array.getElem?_eq_some_iff.1 hj).1
  rw [h.2 j hlt] at hl
  have hjp : j ∈ pre := by simpa using hl
  obtain ⟨p1, p2, rfl⟩ := List.append_of_mem hjp
  have := ok.back p1 j (p2 ++ l) oj (by rw [hp]; simp) hj e he hb
  have hlt2 := ok.lt e.on (by rw [hp]; simp [this])
  rw [h.2 e.on hlt2]
  simp [this]

theorem wpAnyX_ord {p : List Nat} (ok : OrdOk md ops S p) (hno : NoWay Q) : ∀ (l pre : List Nat) (listed : Array Bool) (a : Act) (w : World), p = pre ++ l → Done ops.size pre listed →
    wpOrdL P ops Q S l a w → wpAnyX P md ops Q S l.length listed a w
  | [], pre, listed, a, w, hp, hu, h => by
    refine ⟨?_, h⟩
    refine List.eq_nil_iff_forall_not_mem.2 fun j hj => ?_
    have h1 := done_d hu (mem_ready.1 hj).1
    have h2 := ok.all j h1.1
    rw [hp] at h2
    exact h1.2 (by simpa using h2)
  | k :: l, pre, listed, a, w, hp, hu, h => by
    have hk : k < ops.size := ok.lt k (by rw [hp]; simp)
    have h0 : ops[k]? = some ops[k] := Array.getElem?_eq_getElem hk
    generalize ops[k] = o at h0
    have hnot : k ∉ pre := by
      have := ok.once
      rw [hp, List.nodup_append] at this
      exact fun hm => this.2.2 k hm k (by simp) rfl
    have hr : k ∈ Region.ready md ops listed := by
      refine mem_ready.2 ⟨?_, o, h0, fun e he hb => ?_⟩
      · exact getD_in (by rw [hu.1]; exact hk) (by rw [hu.2 k hk]; simpa using hnot)
      · have hm := ok.back pre k l o hp h0 e he hb
        rw [hu.2 e.on (ok.lt _ (by rw [hp]; simp [hm]))]
        simpa using hm
    have hp' : p = pre ++ [k] ++ l := by rw [hp]; simp
    have hlate : ∀ j, j < ops.size → j ∉ pre → j ≠ k → j ∈ l := fun j hj h1 h2 => by
      have := ok.all j hj
      rw [hp] at this
      simp only [List.mem_append, List.mem_cons] at this
      exact (this.resolve_left h1).resolve_left h2
    simp only [wpOrdL] at h
    by_cases hS : S k = true
    · unfold stX at h
      rw [if_pos hS] at h
      obtain ⟨v, hy, hK⟩ := yieldsAt_of_stOp h0 h
      refine wpAnyX_firstC hS h0 ok.sel hno l.length listed a w (done_closed ok hp hu) (fun j oj hj hne hun => ?_) hr hy (wpAnyX_ord ok hno l (pre ++ [k]) _ _ w hp' (done_set hu hk) hK)
      obtain ⟨h1, h2⟩ := done_d hu hun
      rcases ok.pairs pre k l j o oj hp (hlate j h1 h2 hne) h0 hj with h3 | ⟨_, h3, h4⟩
      · exact .inl h3
      · exact .inr ⟨h3, h4⟩
    · refine ⟨fun h1 => (by rw [h1] at hr; cases hr), fun j hj => ?_⟩
      by_cases hjk : j = k
      · subst hjk
        exact stX_mono (fun a' w' h3 => wpAnyX_ord ok hno l (pre ++ [j]) _ a' w' hp' (done_set hu hk) h3) h
      · exfalso
        obtain ⟨hjun, oj, hoj, _⟩ := mem_ready.1 hj
        obtain ⟨h1, h2⟩ := done_d hu hjun
        rcases ok.pairs pre k l j o oj hp (hlate j h1 h2 hjk) h0 hoj with h3 | ⟨h3, _, _⟩
        · have := h3.ready (done_closed ok hp hu) hj
          rw [unlisted hr] at this
          cases this
        · exact hS h3

/-! The check, as a Bool. -/
def pairC (ops : Array Oper) (S : Nat → Bool) (m : List Nat) (i j : Nat) : Bool :=
  (m.getD j 0).testBit i || (S i && (match ops[i]?, ops[j]? with | some oi, some oj => (S j || calm oi) && oi.apart ops oj | _, _ => true))
def goB (ops : Array Oper) (S : Nat → Bool) (m : List Nat) : List Nat → List Nat → Bool
  | _, [] => true
  | pre, k :: post => (match ops[k]? with | some o => o.after.toList.all fun e => !Region.binds .any e || pre.contains e.on | none => false) && post.all (pairC ops S m k) && goB ops S m (pre ++ [k]) post
def ordB (ops : Array Oper) (S : Nat → Bool) (p : List Nat) : Bool :=
  Region.noSelect ops && (List.range ops.size).all (fun j => p.contains j) && decide p.Nodup && goB ops S (masks ops.toList []) [] p

theorem goB_spec {m : List Nat} (hm : ∀ j i, (m.getD j 0).testBit i = true → Reach .any ops j i) : ∀ (l pre0 : List Nat), goB ops S m pre0 l = true →
    (∀ j, j ∈ l → j < ops.size) ∧ (∀ pre k post o, l = pre ++ k :: post → ops[k]? = some o → ∀ e ∈ o.after, Region.binds .any e = true → e.on ∈ pre0 ++ pre) ∧
    (∀ pre i post j oi oj, l = pre ++ i :: post → j ∈ post → ops[i]? = some oi → ops[j]? = some oj → Reach .any ops j i ∨ (S i = true ∧ (S j = true ∨ calm oi = true) ∧ oi.apart ops oj = true))
  | [], pre0, _ => ⟨(fun _ hj => nomatch hj), fun pre _ _ _ h => (by cases pre <;> cases h), fun pre _ _ _ _ _ h => (by cases pre <;> cases h)⟩
  | x :: l, pre0, h => by
    simp only [goB, Bool.and_eq_true] at h
    obtain ⟨⟨h1, h2⟩, h3⟩ := h
    obtain ⟨r1, r2, r3⟩ := goB_spec hm l (pre0 ++ [x]) h3
    refine ⟨fun j hj => ?_, fun pre k post o hl hk e he hb => ?_, fun pre i post j oi oj hl hj hi hoj => ?_⟩
    · rcases List.mem_cons.1 hj with rfl | hj
      · split at h1
        · rename_i o ho; exact (Array.getElem?_eq_some_iff.1 ho).1
        · cases h1
      · exact r1 j hj
    · cases pre with
      | nil =>
        simp only [List.nil_append, List.cons.injEq] at hl
        obtain ⟨rfl, rfl⟩ := hl
        rw [hk] at h1
        simp only [List.all_eq_true] at h1
        have := h1 e (by simpa using he)
        simpa [hb] using this
      | cons y pre =>
        simp only [List.cons_append, List.cons.injEq] at hl
        obtain ⟨rfl, hl⟩ := hl
        have := r2 pre k post o hl hk e he hb
        simpa using this
    · cases pre with
      | nil =>
        simp only [List.nil_append, List.cons.injEq] at hl
        obtain ⟨rfl, rfl⟩ := hl
        have := List.all_eq_true.1 h2 j hj
        unfold pairC at this
        simp only [hi, hoj, Bool.or_eq_true, Bool.and_eq_true] at this
        rcases this with h4 | ⟨h5, h6, h7⟩
        · exact .inl (hm _ _ h4)
        · exact .inr ⟨h5, h6, h7⟩
      | cons y pre =>
        simp only [List.cons_append, List.cons.injEq] at hl
        exact r3 pre i post j oi oj hl.2 hj hi hoj

theorem ordB_ok {p : List Nat} (h : ordB ops S p = true) : OrdOk .any ops S p := by
  unfold ordB at h
  simp only [Bool.and_eq_true, List.all_eq_true, List.mem_range, decide_eq_true_eq] at h
  obtain ⟨⟨⟨h1, h2⟩, h3⟩, h4⟩ := h
  obtain ⟨r1, r2, r3⟩ := goB_spec (masks_spec ops.toList [] (by simp) (by simp)) p [] h4
  exact ⟨Region.noSelect_spec h1, fun j hj => by simpa using h2 j hj, r1, h3, by simpa using r2, r3⟩

/-! The walk in pieces. -/
theorem still_ord {w : World} {R : Act → Prop} {rest : List Nat} : ∀ (l : List Oper) (q : List Nat) (a : Act), (∀ j : Nat, l[j]? = (q[j]?).bind (ops[·]?)) → l.length = q.length → (∀ i, i ∈ q → S i = true) →
    (∀ a, R a → wpOrdL P ops Q S rest a w) → wpStill P ops w R l a → wpOrdL P ops Q S (q ++ rest) a w
  | [], [], a, _, _, _, hR, h => by simpa using hR a h
  | [], _ :: _, _, _, hlen, _, _, _ => by simp at hlen
  | _ :: _, [], _, _, hlen, _, _, _ => by simp at hlen
  | o :: l, k :: q, a, hl, hlen, hS, hR, h => by
    have h0 : ops[k]? = some o := by simpa using (hl 0).symm
    simp only [List.cons_append, wpOrdL, stX, hS k (by simp), if_true]
    have hst : stOp P ops w k (wpStill P ops w R l) a := by unfold stOp; simp only [h0]; exact h
    refine stOp_mono (fun a' h' => still_ord l q a' (fun j => ?_) (by simpa using hlen) (fun i hi => hS i (by simp [hi])) hR h') hst
    have := hl (j + 1)
    simpa using this
theorem list_ord {N : Act → World → Prop} {rest : List Nat} : ∀ (l : List Oper) (q : List Nat) (a : Act) (w : World), (∀ j : Nat, l[j]? = (q[j]?).bind (ops[·]?)) → l.length = q.length → (∀ i, i ∈ q → S i = false) →
    (∀ a w, N a w → wpOrdL P ops Q S rest a w) → wpList P ops (Exit.then N Q) l a w → wpOrdL P ops Q S (q ++ rest) a w
  | [], [], a, w, _, _, _, hR, h => by simpa using hR a w h
  | [], _ :: _, _, _, _, hlen, _, _, _ => by simp at hlen
  | _ :: _, [], _, _, _, hlen, _, _, _ => by simp at hlen
  | o :: l, k :: q, a, w, hl, hlen, hS, hR, h => by
    have h0 : ops[k]? = some o := by simpa using (hl 0).symm
    simp only [List.cons_append, wpOrdL, stX, hS k (by simp), Bool.false_eq_true, if_false]
    have hop : wpOp P ops Q k (wpList P ops (Exit.then N Q) l) a w := by
      unfold wpOp
      simp only [h0]
      simp only [wpList] at h
      split
      · rename_i hw
        rw [if_pos hw] at h
        exact h.imp wp_then (fun ⟨h1, h2⟩ => ⟨h1, h2⟩)
      · rename_i hw
        rw [if_neg hw] at h
        exact h
    refine wpOp_mono (fun a' w' h' => list_ord l q a' w' (fun j => ?_) (by simpa using hlen) (fun i hi => hS i (by simp [hi])) hR h') hop
    have := hl (j + 1)
    simpa using this

/-- The flags of a piece list, laid on the order p. -/
def flags (segs : List (Bool × List Nat)) : List (Bool × Nat) := segs.map fun x => (x.1, x.2.length)
def orderOf (segs : List (Bool × List Nat)) : List Nat := segs.flatMap fun x => x.2
def isStill (segs : List (Bool × List Nat)) (i : Nat) : Bool := segs.any fun x => x.1 && x.2.contains i
def picks (ops : List Oper) : List Nat → List Oper
  | [] => []
  | i :: q => (ops.drop i).take 1 ++ picks ops q

def wpPieces (P : Program) (ops : List Oper) (Q : Exit → Act → World → Prop) : List (Bool × List Nat) → Act → World → Prop
  | [], a, w => Q .normal a w
  | (true, q) :: r, a, w => wpList P ops.toArray (Exit.then (fun a' w' => w' = w ∧ wpPieces P ops Q r a' w) Q) (picks ops q) a w
  | (false, q) :: r, a, w => wpList P ops.toArray (Exit.then (fun a' w' => wpPieces P ops Q r a' w') Q) (picks ops q) a w
def piecesB (P : Program) (ops : List Oper) (S : Nat → Bool) : List (Bool × List Nat) → Bool
  | [] => true
  | (b, q) :: r => q.all (fun i => S i == b && decide (i < ops.length)) && (!b || (picks ops q).all (fun o => tame2 P o.op)) && piecesB P ops S r

theorem picks_get (l : List Oper) : ∀ (q : List Nat), (∀ i, i ∈ q → i < l.length) → (∀ j : Nat, (picks l q)[j]? = (q[j]?).bind (l.toArray[·]?)) ∧ (picks l q).length = q.length
  | [], _ => by simp [picks]
  | k :: q, h => by
    obtain ⟨h1, h2⟩ := picks_get l q fun i hi => h i (by simp [hi])
    have hkl := h k (by simp)
    have hk : l[k]? = some l[k] := List.getElem?_eq_getElem hkl
    have e : picks l (k :: q) = l[k] :: picks l q := by
      show (l.drop k).take 1 ++ picks l q = _
      rw [List.drop_eq_getElem_cons hkl]
      rfl
    rw [e]
    refine ⟨fun j => ?_, by simp [h2]⟩
    cases j with
    | zero => simp
    | succ j => simpa using h1 j

theorem pieces_ord {l : List Oper} (hno : NoWay Q) : ∀ (segs : List (Bool × List Nat)) (a : Act) (w : World), piecesB P l S segs = true → wpPieces P l Q segs a w → wpOrdL P l.toArray Q S (orderOf segs) a w
  | [], _, _, _, h => h
  | (b, q) :: r, a, w, hB, h => by
    simp only [piecesB, Bool.and_eq_true, List.all_eq_true, beq_iff_eq, decide_eq_true_eq] at hB
    obtain ⟨⟨h1, h2⟩, h3⟩ := hB
    obtain ⟨g1, g2⟩ := picks_get l q fun i hi => (h1 i hi).2
    have e : orderOf ((b, q) :: r) = q ++ orderOf r := by simp [orderOf]
    rw [e]
    cases b with
    | true =>
      simp only [wpPieces] at h
      have ht : (picks l q).all (fun o => tame2 P o.op) = true := by simpa using h2
      refine still_ord (picks l q) q a g1 g2 (fun i hi => (h1 i hi).1) (fun a' h' => h') (cut_still hno _ _ ht (list_mono (fun a' w' hk => ?_) _ _ _ h))
      exact ⟨hk.1, pieces_ord hno r a' w h3 hk.2⟩
    | false =>
      simp only [wpPieces] at h
      exact list_ord (picks l q) q a w g1 g2 (fun i hi => (h1 i hi).1) (fun a' w' h' => pieces_ord hno r a' w' h3 h') h

/-- A region that draws, by one walk in an order of one's own, in pieces: (true, indices): operations that store nothing (behind them: 'refine ⟨rfl, ?_⟩'); (false, indices): operations of any kind, each of which stands in one order with every other, but for moves that are listed before. -/
theorem wp_region_pieces {id : Nat} {a : Act} {w : World} {l : List Oper} (segs : List (Bool × List Nat)) (hm : P.follows .mixedOrders = true) (hB : ordB l.toArray (isStill segs) (orderOf segs) = true) (hT : piecesB P l (isStill segs) segs = true)
    (hno : NoWay Q) (h : wpPieces P l Q segs a w.drew) : (Code.region id l.toArray true).wp P Q a w := by
  have ok := ordB_ok hB
  have hlen : (orderOf segs).length = l.length := by
    have hp : List.Perm (orderOf segs) (List.range l.length) := by
      refine (List.perm_ext_iff_of_nodup ok.once List.nodup_range).2 fun i => ?_
      rw [List.mem_range]
      exact ⟨fun hi => by simpa using ok.lt i hi, fun hi => ok.all i (by simpa using hi)⟩
    simpa using hp.length_eq
  refine wp_region_any hm (wpAny_of_X (S := isStill segs) _ _ _ _ ?_)
  have := wpAnyX_ord (P := P) (Q := Q) (md := .any) ok hno (orderOf segs) [] (Array.replicate l.toArray.size false) a w.drew rfl ⟨by simp, fun j hj => by simp at hj; simp [hj]⟩ (pieces_ord hno segs a w.drew hT h)
  rw [hlen] at this
  simpa using this
end
end Go.Proofs.Ytblcphibkcjmdaa

/-
  A region that draws its order, walked in the order of the text by the ordinary walk: pieces of operations that store nothing, and pieces that stand in one order with everything.
-/
import Derived.Test.YtblcphibkcjmdaaTame
namespace Go.Proofs.Ytblcphibkcjmdaa
open Go
/-- A conversion of a whole number to a whole number. -/
def intConv (P : Program) : Op → Bool
  | .convert s d _ => (match P.underlying s, P.underlying d with | some (.int _), some (.int _) => true | _, _ => false)
  | _ => false
theorem und_run {P : Program} {s : TypeId} {d : TypeDesc} (e : P.underlying s = some d) (w : World) : (underlying s).run P w = .ok d w := by
  unfold underlying
  simp [e, go_sem]
def tame2 (P : Program) (o : Op) : Bool := tameOp o || intConv P o
theorem mild2 {P : Program} {ρ : Operand → Value} {o : Oper} (h : tame2 P o.op = true) {w w1 : World} {n : Next} (hr : (execOp ρ o).run P w = .ok n w1) : Grew w w1 ∧ ∃ v, n = .value v := by
  simp only [tame2, Bool.or_eq_true] at h
  rcases h with h | h
  · exact mild_exec ρ o h P w n w1 hr
  · obtain ⟨dst, op, type, pos, after, guard⟩ := o
    cases op <;> simp only [intConv, Bool.false_eq_true] at h
    case convert s d x =>
      split at h
      · rename_i k1 k2 e1 e2
        simp only [execOp] at hr
        cases hx : ρ x <;> simp [hx, convert, und_run e1, und_run e2, go_sem, Conv.intToInt] at hr
        case int => exact ⟨hr.2 ▸ Grew.refl _, _, hr.1.symm⟩
        case float q b =>
          have ht : Tame (Conv.floatToInt q b k2) := by
            unfold Conv.floatToInt
            dsimp only
            split
            · split
              · exact Tame.pure _
              · exact Tame.bind (Tame.choose _) fun _ => Tame.pure _
            · exact Tame.bind (Tame.choose _) fun _ => Tame.pure _
          cases h1 : (Conv.floatToInt q b k2).run P w with
          | ok a w2 =>
            rw [h1] at hr
            simp at hr
            exact ⟨hr.2 ▸ ht P w a w2 h1, a, hr.1.symm⟩
          | halt y w2 => rw [h1] at hr; simp at hr
        case pointer a => cases a <;> simp [go_sem] at hr
      · cases h

section
variable {P : Program} {ops : Array Oper} {Q : Exit → Act → World → Prop}

/-- Q is no way out but by the end. -/
def NoWay (Q : Exit → Act → World → Prop) : Prop := (∀ c a w, ¬ Q (.panic c) a w) ∧ ∀ a w, ¬ Q .outgrown a w
theorem noWay_body {fn : Func} {R : Ending → World → Prop} (hp : ∀ c w, ¬ R (.panicked c) w) (ho : ∀ w, ¬ R .outgrown w) : NoWay (bodyPost P fn R) :=
  ⟨fun c _ w h => hp c w h.2, fun _ w h => ho w h⟩

theorem cut_step {o : Oper} {K : Act → World → Prop} {N : Act → World → Prop} {a : Act} {w : World} (ht : tame2 P o.op = true) (hno : NoWay Q)
    (h : o.wp P a w K (Exit.then N Q) ∨ (o.asks P a w ∧ LetsOut (Exit.then N Q))) : ∃ v w1, (execOp a.eval o).run P w = .ok (.value v) w1 ∧ Grew w w1 ∧ K (a.put o.dst v) w1 := by
  rcases h with h | ⟨_, a', w', h⟩
  · unfold Oper.wp at h
    cases hr : (execOp a.eval o).run P w with
    | ok n w1 =>
      obtain ⟨hg, v, rfl⟩ := mild2 ht hr
      rw [hr] at h
      exact ⟨v, w1, rfl, hg, h⟩
    | halt x w1 =>
      rw [hr] at h
      cases x <;> simp only [Oper.upon] at h
      exact (hno.1 _ _ _ h).elim
  · exact (hno.2 _ _ h).elim

theorem cut_reach {N : Act → World → Prop} (hno : NoWay Q) : ∀ (l : List Oper) (a : Act) (w : World), l.all (fun o => tame2 P o.op) = true → wpList P ops (Exit.then N Q) l a w → ∃ a' w', Grew w w' ∧ N a' w'
  | [], a, w, _, h => ⟨a, w, Grew.refl _, h⟩
  | o :: l, a, w, ht, h => by
    simp only [List.all_cons, Bool.and_eq_true] at ht
    simp only [wpList] at h
    split at h
    · obtain ⟨v, w1, _, hg, hK⟩ := cut_step ht.1 hno h
      obtain ⟨a', w', hg', hN⟩ := cut_reach hno l _ _ ht.2 hK
      exact ⟨a', w', hg.trans hg', hN⟩
    · exact cut_reach hno l _ _ ht.2 h

theorem cut_still {R : Act → Prop} {w0 : World} (hno : NoWay Q) : ∀ (l : List Oper) (a : Act), l.all (fun o => tame2 P o.op) = true →
    wpList P ops (Exit.then (fun a' w' => w' = w0 ∧ R a') Q) l a w0 → wpStill P ops w0 R l a
  | [], a, _, h => h.2
  | o :: l, a, ht, h => by
    simp only [List.all_cons, Bool.and_eq_true] at ht
    simp only [wpList] at h
    simp only [wpStill]
    split
    · rename_i hw
      rw [if_pos hw] at h
      obtain ⟨v, w1, hr, hg, hK⟩ := cut_step ht.1 hno h
      obtain ⟨a', w', hg', rfl, _⟩ := cut_reach hno l _ _ ht.2 hK
      obtain rfl := hg.back hg'
      unfold Oper.still
      rw [hr]
      exact ⟨rfl, cut_still hno l _ ht.2 hK⟩
    · rename_i hw
      rw [if_neg hw] at h
      exact cut_still hno l _ ht.2 h

def wpCuts (P : Program) (ops : Array Oper) (Q : Exit → Act → World → Prop) : List (Bool × Nat) → List Oper → Act → World → Prop
  | [], _, a, w => Q .normal a w
  | (true, n) :: r, l, a, w => wpList P ops (Exit.then (fun a' w' => w' = w ∧ wpCuts P ops Q r (l.drop n) a' w) Q) (l.take n) a w
  | (false, n) :: r, l, a, w => wpList P ops (Exit.then (fun a' w' => wpCuts P ops Q r (l.drop n) a' w') Q) (l.take n) a w
def cutsTame (P : Program) : List (Bool × Nat) → List Oper → Bool
  | [], _ => true
  | (true, n) :: r, l => (l.take n).all (fun o => tame2 P o.op) && cutsTame P r (l.drop n)
  | (false, n) :: r, l => cutsTame P r (l.drop n)

theorem list_mono {N N' : Act → World → Prop} (hN : ∀ a w, N a w → N' a w) : ∀ (l : List Oper) (a : Act) (w : World), wpList P ops (Exit.then N Q) l a w → wpList P ops (Exit.then N' Q) l a w
  | [], a, w, h => hN a w h
  | o :: l, a, w, h => by
    simp only [wpList] at h ⊢
    split
    · rename_i hw
      rw [if_pos hw] at h
      rcases h with h | ⟨h1, a', w', h2⟩
      · refine .inl ?_
        have h' := Oper.wp_mono (fun a w => list_mono hN l a w) h
        unfold Oper.wp at *
        generalize (execOp a.eval o).run P w = r at *
        cases r with
        | ok n w' =>
          cases n <;> simp only [Oper.upon] at h' ⊢ <;>
            first
              | exact h'
              | exact Calls.mono h' (fun e w'' he => by cases e <;> exact he)
              | exact Rows.mono h' (fun _ _ he => he)
        | halt x w' => cases x <;> simp only [Oper.upon] at h' ⊢ <;> exact h'
      · exact .inr ⟨h1, a', w', h2⟩
    · rename_i hw
      rw [if_neg hw] at h
      exact list_mono hN l _ _ h

theorem segs_of_cuts (hno : NoWay Q) : ∀ (segs : List (Bool × Nat)) (l : List Oper) (a : Act) (w : World), cutsTame P segs l = true → wpCuts P ops Q segs l a w → wpSegs P ops Q segs l a w
  | [], _, _, _, _, h => h
  | (true, n) :: r, l, a, w, ht, h => by
    simp only [cutsTame, Bool.and_eq_true] at ht
    simp only [wpSegs]
    refine cut_still hno _ _ ht.1 (list_mono (fun a' w' hk => ?_) _ _ _ h)
    exact ⟨hk.1, segs_of_cuts hno r _ a' w ht.2 hk.2⟩
  | (false, n) :: r, l, a, w, ht, h => by
    simp only [cutsTame] at ht
    exact list_mono (fun a' w' hk => segs_of_cuts hno r _ a' w' ht hk) _ _ _ h

/-- A region that draws, by one walk in the order of the text: (true, n): n operations that store nothing (behind them: 'refine ⟨rfl, ?_⟩'); (false, n): n operations of any kind, each of which stands in one order with every other. -/
theorem wp_region_cuts {id : Nat} {a : Act} {w : World} {l : List Oper} (segs : List (Bool × Nat)) (hm : P.follows .mixedOrders = true) (hB : mixB l.toArray (segS segs) = true) (hT : cutsTame P segs l = true) (hlen : (segS segs).length = l.length)
    (hno : NoWay Q) (h : wpCuts P l.toArray Q segs l a w.drew) : (Code.region id l.toArray true).wp P Q a w :=
  wp_region_mix segs hm hB hlen (segs_of_cuts hno segs l a w.drew hT h)
end
end Go.Proofs.Ytblcphibkcjmdaa

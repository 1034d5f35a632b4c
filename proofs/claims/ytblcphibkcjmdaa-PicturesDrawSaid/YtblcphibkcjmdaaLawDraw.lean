/-
  PicturesDraw: the law, for every input.
-/
import Derived.ChangeMaps5
import Derived.Test.YtblcphibkcjmdaaPopen
import Derived.ProofKit
import Derived.OpenShut
import Derived.ShutString
import Derived.ChangeOld
namespace Go.Proofs.Ytblcphibkcjmdaa
open Go.ChangeShapes Go.WideShapes Go.ChangeAt Go.RowKit

theorem draw_any (Wd Hg : Nat) (hW : Wd < 256) (hH : Hg < 256) (ao : Option Addr) (len cap : Nat) (B : Nat → Nat) (s : ByteArray) (w : World) (hlen : len ≤ 9223372036854775807) (hb : BytesV w ao len B) (hB8 : ∀ t, B t < 256) :
    Calls Try.prog 3 #[.agg #[.int .u8 Wd, .int .u8 Hg, .slice ao len cap], .string s] w (RetB (.bool true) w) := by
  by_cases hs : s.size ≤ 100
  · exact draw_walk Wd Hg hW hH ao len cap B s w hlen hb hB8 hs
  · exact draw_long Wd Hg ao len cap s w (by omega)

namespace lawPicturesDraw
theorem own : ownKnob Try.prog.godebug = none := by kernel_rfl
theorem laidOut : laidOutB Try.prog = true := by kernel_rfl

set_option maxRecDepth 100000 in
theorem lifted (os : Os) (started : os.Started) (H : Type) (enc : TypeId × Value → H) :
    ReturnsInHanded {} Try.checked os 3 .any (Rows.picturesDrawSpec.pre6 enc Try.prog Try.f3 Rows.picturesDrawRow.domain false) (Rows.picturesDrawSpec.post enc Try.prog Try.f3 false true false false) := by
  refine returnsInHanded_of_change (C := Try.checked) own started (by kernel_rfl) Try.func3
    (ChangeSpec.witness6 (enc := enc) (C := Try.checked) false ⟨#[], #[.agg #[.int .u8 0, .int .u8 0, .slice none 0 0], .string ⟨#[]⟩], []⟩ 8 (by kernel_rfl) (by kernel_rfl) (by kernel_rfl) (by kernel_rfl)) ?_
  intro W base args ds gs before hval0 hW hcnd _
  have hval : ∀ (j : Nat) t v, Try.f3.params[j]? = some t → args[j]? = some v → Value.okWide Try.prog W .any base t v := hval0
  have hW' := hW
  obtain ⟨p, q, hA0, hV, rfl, hfz, hnd⟩ := hW
  have hA : DataW.TrodAll enc Try.prog W 0 (fun _ => true) true Try.f3.params.toList args.toList ds p := hA0
  rw [Try.params3] at hA hval
  obtain ⟨v0, vs0, d0, ds0, p0, q0, hargs, rfl, rfl, h0, r0⟩ := trodAll_cons hA
  obtain ⟨v1, vs1, d1, ds1, p1, q1, rfl, rfl, rfl, h1, r1⟩ := trodAll_cons r0
  obtain ⟨rfl, rfl, rfl⟩ := trodAll_nil r1
  obtain rfl : args = #[v0, v1] := by cases args; simp_all
  obtain ⟨rfl, rfl⟩ := trodVars_none hV
  have k0 := h0
  have lt0 : ∀ x ∈ p0, x.block < W.heap.size := by obtain ⟨m, hm⟩ := k0; exact DataW.trod_lt m _ _ _ hm
  have k1 := h1
  have lt1 : ∀ x ∈ p1, x.block < W.heap.size := by obtain ⟨m, hm⟩ := k1; exact DataW.trod_lt m _ _ _ hm
  obtain ⟨y0, y1, y2, e0, e1, e2, m0, rfl, _, _, t0, t1, t2⟩ := Joins.open_agg3 Try.underlying24 (by kernel_rfl) (by kernel_rfl) (hval 0 24 v0 rfl rfl) h0
  obtain ⟨Wd, hWd, rfl⟩ := open_u8 Try.underlying5 t0
  obtain ⟨Hg, hHg, rfl⟩ := open_u8 Try.underlying5 t1
  obtain ⟨ao, len, cap, B, rfl, hlen, hbv, hB8⟩ := open_bytesV Try.underlying22 Try.underlying5 (by kernel_rfl) t2
  obtain ⟨s, rfl, _, _, _⟩ := Go.ChangeMaps.open_string Try.underlying9 (hval 1 9 v1 rfl rfl) h1
  clear hA0 hval0
  refine (draw_any Wd Hg hWd hHg ao len cap B s W hlen hbv hB8).mono fun e W' ⟨he, bel⟩ => ?_
  subst he
  exact ⟨_, rfl, _, _, _, [], _, [], hW', trodAll_mk1 (shut_bool Try.underlying4 _), (trodAll_cons_mk (Below.trod laidOut (by kernel_rfl) (of_decide_eq_true (by kernel_rfl)) k0 bel lt0) (trodAll_cons_mk (Below.trod laidOut (by kernel_rfl) (of_decide_eq_true (by kernel_rfl)) k1 bel lt1) trodAll_mk0)), rfl, bel.frame _, fun h => by cases h⟩

theorem over : Rows.picturesDrawRow.holds Try.pinned (OpenSpec.ofChange Rows.picturesDrawSpec) :=
  OpenClaim.holds_of_wide 3 Try.f3 rfl rfl rfl rfl rfl rfl rfl ⟨rfl, rfl, rfl, rfl, rfl⟩ rfl rfl rfl rfl rfl (by kernel_rfl) Try.func3 (by kernel_rfl)
    (of_decide_eq_true (by kernel_rfl)) (by unfold Func.isWrapper; first | (rw [if_pos (by decide +kernel)]; kernel_rfl) | (rw [if_neg (by decide +kernel)]; exact ⟨rfl, rfl⟩))
    (fun os started H enc _ => lifted os started H enc)

theorem proved : Rows.PicturesDrawSaid := over
end lawPicturesDraw
end Go.Proofs.Ytblcphibkcjmdaa

/-
  The statement FnExactGroupBy, proved for every input.
-/
import Derived.Test.YtokhfcfnhgianaaCG18
namespace Go.Proofs.Ytokhfcfnhgianaa.fnExactGroupBy
open Go.ChangeShapes Go.WideShapes Go.ChangeAt Go.RowKit
set_option linter.unusedVariables false

theorem own : ownKnob Try.prog.godebug = none := by kernel_rfl
theorem laidOut : laidOutB Try.prog = true := by kernel_rfl

set_option maxRecDepth 100000 in
theorem lifted (os : Os) (started : os.Started) (H : Type) (enc : TypeId × Value → H) :
    ReturnsInHanded {} Try.checked os 3 .any (Rows.fnExactGroupBySpec.pre6 enc Try.prog Try.f3 Rows.fnExactGroupByRow.domain false) (Rows.fnExactGroupBySpec.post enc Try.prog Try.f3 false true false false) := by
  refine returnsInHanded_of_change (C := Try.checked) own started (by kernel_rfl) Try.func3
    (ChangeSpec.witness6 (enc := enc) (C := Try.checked) false ⟨#[], #[.slice none 0 0, .slice none 0 0, .int .i64 0], []⟩ 8 (by kernel_rfl) (by kernel_rfl) (by kernel_rfl) (by kernel_rfl)) ?_
  intro W base args ds gs before hval0 hW hcnd _
  have hval : ∀ (j : Nat) t v, Try.f3.params[j]? = some t → args[j]? = some v → Value.okWide Try.prog W .any base t v := hval0
  have hW' := hW
  obtain ⟨p, q, hA0, hV, rfl, hfz, hnd⟩ := hW
  have hA : DataW.TrodAll enc Try.prog W 0 (fun _ => true) true Try.f3.params.toList args.toList ds p := hA0
  have hA1 := hA
  rw [Try.params3] at hA hval
  obtain ⟨v0, v1, v2, d0, d1, d2, p0, p1, p2, rfl, rfl, rfl, h0, h1, h2⟩ := trodAll_three hA
  obtain ⟨rfl, rfl⟩ := trodVars_none hV
  simp only [List.append_nil] at hW'
  obtain ⟨x0, hd0, hl0, hs0⟩ := open_sms (d := 6) Try.underlying22 (by kernel_rfl) (by kernel_rfl) (by kernel_rfl) (hval 0 22 v0 rfl rfl) h0
  unfold smFit maxLen at hs0
  have hl0_ : x0.length ≤ 9223372036854775807 := by unfold maxLen at hl0; omega
  have hs0_ : smAny x0 := fun s hs => ⟨by have := (hs0 s hs).1; omega, fun x hx => by have := (hs0 s hs).2.1 x hx; exact ⟨by omega, by omega⟩⟩
  obtain ⟨x1, hd1, hl1, hs1⟩ := open_strs (d := 4) Try.underlying23 (by kernel_rfl) Try.underlying9 (by kernel_rfl) (hval 1 23 v1 rfl rfl) h1
  unfold maxLen at hs1
  have hl1_ : x1.length ≤ 9223372036854775807 := by unfold maxLen at hl1; omega
  obtain ⟨x2, hd2, hr2⟩ := open_num Try.underlying3 (hval 2 3 v2 rfl rfl) h2
  refine (con_calls (w := W) (vs := [v0, v1, v2]) (c_fnExactGroupBy x0 x1 x2 hl0_ hs0_ (fun s hs => (hs0 s hs).2.2) hl1_ (fun x hx => by have := hs1 x hx; omega)) (fun _ => .nilFunc) ⟨hd0, hd1, hd2, trivial⟩).mono fun e W' ⟨he, hb⟩ => ?_
  subst he
  have hlt : ∀ x ∈ p0 ++ p1 ++ p2, x.block < W.heap.size := fun x hx => hW'.lt x hx
  exact ⟨_, rfl, post_below (pa := p0 ++ p1 ++ p2) (pv := []) hW' (fun _ _ _ => trodAll_mk1 (shut_bool Try.underlying4 _))
    (fun sp hsp => trodAll_stays laidOut (by rw [Try.params3]; intro t ht; simp at ht; rcases ht with rfl | rfl | rfl <;> exact ⟨by kernel_rfl, of_decide_eq_true (by kernel_rfl)⟩) hA1 (fun x hx => hb.same (hlt x hx)) (fun x hx => hsp x hx))
    (fun _ _ => rfl) (by simp) hb (ok_one (by kernel_rfl) rfl (okWide_bool_mk Try.underlying4 _))⟩

theorem proved : Rows.FnExactGroupBySaid :=
  OpenClaim.holds_of_wide 3 Try.f3 rfl rfl rfl rfl rfl rfl rfl ⟨rfl, rfl, rfl, rfl, rfl⟩ rfl rfl rfl rfl rfl (by kernel_rfl) Try.func3 (by kernel_rfl)
    (of_decide_eq_true (by kernel_rfl)) (by unfold Func.isWrapper; first | (rw [if_pos (by decide +kernel)]; kernel_rfl) | (rw [if_neg (by decide +kernel)]; exact ⟨rfl, rfl⟩))
    (fun os started H enc _ => lifted os started H enc)
end Go.Proofs.Ytokhfcfnhgianaa.fnExactGroupBy

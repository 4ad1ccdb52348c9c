/-
  The statement FnExactFormatLine, tied to the program's text, proved for every input.
-/
import Derived.Test.YtllgddednlfhfaaDoorW102
import Derived.Test.YtllgddednlfhfaaDoorEng30
import Derived.Test.YtllgddednlfhfaaDoorCards
import Derived.Test.YtllgddednlfhfaaDoorTie
import Derived.Deep.DeepHandedRow
import Derived.Deep.DeepWitnessRowRef
import Derived.ProofKit
import Derived.SizedLaws
import Derived.SevenTiedAt
import Derived.Shelf.Vars
import Derived.LaidSub
import Derived.MakeChecks
import Derived.Lib.LaidIn
import Derived.Lib.LaidTab
namespace Go.Proofs.YtllgddednlfhfaaDoor.fnExactFormatLine
open Go.ChangeShapes Go.WideShapes Go.ChangeAt Go.RowKit Go.Lib
set_option linter.unusedVariables false

theorem own : ownKnob Tryd.prog.godebug = none := by kernel_rfl
theorem laidOut : laidOutB Tryd.prog = true := by kernel_rfl
def b32 : List Int := [0, 1, 28, 2, 29, 14, 24, 3, 30, 22, 20, 15, 25, 17, 4, 8, 31, 27, 13, 23, 21, 19, 16, 7, 26, 12, 18, 6, 11, 5, 10, 9]
def b64 : List Int := [0, 1, 56, 2, 57, 49, 28, 3, 61, 58, 42, 50, 38, 29, 17, 4, 62, 47, 59, 36, 45, 43, 51, 22, 53, 39, 33, 30, 24, 18, 12, 5, 63, 55, 48, 27, 60, 41, 37, 16, 46, 35, 44, 21, 52, 32, 23, 11, 54, 26, 40, 15, 34, 20, 31, 10, 25, 14, 19, 9, 13, 8, 7, 6]
noncomputable def laidWorld (os : Os) : World :=
  let w0 := World.holding Tryd.prog os ⟨#[], #[], []⟩
  let put (h : Array Obj) (g : Nat) (cs : Array Value) : Array Obj := h.modify g fun
    | .cells _ t frozen => .cells cs t frozen
    | o => o
  let h1 := put w0.heap 6 (b32.map fun z => Value.int .u8 z).toArray
  let h2 := put h1 7 (b64.map fun z => Value.int .u8 z).toArray
  let h3 := put h2 1 pow10
  { w0 with heap := h3 }
theorem laid_met (os : Os) (args : Array Value) : laidMet Tryd.prog Rows.fnExactFormatLineRow.laid ((laidWorld os).forCall (fun _ _ => 0) ⟨#[], args, []⟩).memory :=
  (show LaidIn Tryd.prog ((laidWorld os).forCall (fun _ _ => 0) ⟨#[], args, []⟩).memory Rows.fnExactFormatLineRow.laid [6, 7, 1] from LaidIn.of_run [6, 7, 1] 8 (by kernel_rfl) (by kernel_rfl) (by kernel_rfl) (by kernel_rfl)).met
theorem witness_row (os : Os) {H : Type} (enc : TypeId × Value → H) :
    (OpenSpec.ofChange Rows.fnExactFormatLineSpec).preRow enc Tryd.prog Tryd.f3 Rows.fnExactFormatLineRow.domain false Rows.fnExactFormatLineRow.laid ((laidWorld os).forCall (fun _ _ => 0) ⟨#[], #[.slice none 0 0, .agg #[.int .i64 0, .int .i64 0]], []⟩).memory #[.slice none 0 0, .agg #[.int .i64 0, .int .i64 0]] := by
  have hw : (DataW.whole enc Tryd.prog ((laidWorld os).forCall (fun _ _ => 0) ⟨#[], #[.slice none 0 0, .agg #[.int .i64 0, .int .i64 0]], []⟩).memory Tryd.f3.params.toList (OpenSpec.ofChange Rows.fnExactFormatLineSpec).vars false (#[.slice none 0 0, .agg #[.int .i64 0, .int .i64 0]] : Array Value).toList 8).map (fun x => (x.1, x.2.1)) =
      some ([.nil, .agg [.lit (.int .i64 0), .lit (.int .i64 0)]], []) := by kernel_rfl
  obtain ⟨⟨x1, x2, x3⟩, hx, hx1⟩ := Option.map_eq_some_iff.1 hw
  simp only [Prod.mk.injEq] at hx1
  obtain ⟨rfl, rfl⟩ := hx1
  exact OpenSpec.preRow_of_cond 8 hx (by kernel_rfl) (fun k hk => by cases hk) (by kernel_rfl) (laid_met os _)
theorem gl_of {W : World} (hL : laidMetH Tryd.prog Rows.fnExactFormatLineRow.laid W) (hS : W.ShapedOpen Tryd.prog) : Gl (Zw W) W := by
  intro q hq
  rcases List.mem_cons.1 hq with rfl | hq
  · obtain ⟨m, hm⟩ := cell_of_shapedOpen_int (g := 0) (t := 3) (zero := #[.int .i64 0]) (k := .i64) hS (of_decide_eq_true (by kernel_rfl)) (by kernel_rfl) rfl (by kernel_rfl) (by kernel_rfl) Tryd.underlying3
    unfold World.cell? at hm
    split at hm
    · rename_i cs t fr hb
      have hm : cs[0]? = some (.int .i64 m) := by simpa using hm
      exact ⟨(Array.getElem?_eq_some_iff.1 hb).1, _, hb, cs, t, fr, m, rfl, hm⟩
    · cases hm
  rcases List.mem_cons.1 hq with rfl | hq
  · have hL1 : laidMet Tryd.prog Rows.fnExactFormatLineRow.laid W := by rw [← Go.MakeChecks.laidMetH_plain _ _ _ (by kernel_rfl)]; exact hL
    have hL2 := laidMet.filter (fun x => x.1 == "internal/strconv.uint64pow10") hL1
    rw [show (Rows.fnExactFormatLineRow.laid.filter fun x => x.1 == "internal/strconv.uint64pow10") = [("internal/strconv.uint64pow10", Lib.tabData .u64 pow10L)] by kernel_rfl] at hL2
    have h3 : Lib.TabIs Tryd.prog W "internal/strconv.uint64pow10" .u64 pow10L :=
      Lib.tabIs_of_head (g := 1) (t := 115) (n := 20) (e := 95) (by kernel_rfl) (by kernel_rfl) (by kernel_rfl) Tryd.underlying95 (by kernel_rfl) (by kernel_rfl) hL2
    have hg : Tryd.prog.globalNamed "internal/strconv.uint64pow10" = some 1 := by kernel_rfl
    unfold Lib.TabIs World.var? at h3
    rw [hg] at h3
    have h3 : (match (W.heap[1]? : Option Obj) with | some (Obj.cells cs _ _) => some cs | _ => none) = some pow10 := h3
    split at h3
    · rename_i cs t fr hb
      cases h3
      exact ⟨(Array.getElem?_eq_some_iff.1 hb).1, _, hb, t, fr, rfl⟩
    · cases h3
  · cases hq

set_option maxRecDepth 100000 in
theorem lifted (os : Os) (started : os.Started) (H : Type) (enc : TypeId × Value → H) (F : Stop.Interp) :
    ReturnsInHanded {} Tryd.checked os 3 .any ((OpenSpec.ofChange Rows.fnExactFormatLineSpec).preRow enc Tryd.prog Tryd.f3 Rows.fnExactFormatLineRow.domain false Rows.fnExactFormatLineRow.laid) (((OpenSpec.ofChange Rows.fnExactFormatLineSpec).at F).post enc Tryd.prog Tryd.f3 false true false false) := by
  refine returnsInHanded_of_row (C := Tryd.checked) (s := OpenSpec.ofChange Rows.fnExactFormatLineSpec) own started (by kernel_rfl) Tryd.func3
    (witness_row_atRef (enc := enc) (C := Tryd.checked) false (laidWorld os) #[.slice none 0 0, .agg #[.int .i64 0, .int .i64 0]] rfl (by kernel_rfl) (by kernel_rfl) (by kernel_rfl) (witness_row os enc)) ?_
  intro W base args ds gs before hval0 hW hcnd0 _ _ hL hS _
  have hval : ∀ (j : Nat) t v, Tryd.f3.params[j]? = some t → args[j]? = some v → Value.okWide Tryd.prog W .any base t v := hval0
  have hgl := gl_of hL hS
  have hW0 : DataW.Whole enc Tryd.prog Tryd.f3.params.toList Rows.fnExactFormatLineSpec.vars false W args.toList ds gs before := hW
  clear hW
  have hW' := hW0
  obtain ⟨p, q, hA0, hV, rfl, hfz, hnd⟩ := hW0
  have hA : DataW.TrodAll enc Tryd.prog W 0 (fun _ => true) true Tryd.f3.params.toList args.toList ds p := hA0
  have hA1 := hA
  rw [Tryd.params3] at hA hval
  obtain ⟨v0, v1, d0, d1, p0, p1, rfl, rfl, rfl, h0, h1⟩ := trodAll_two hA
  obtain ⟨rfl, rfl⟩ := trodVars_none hV
  simp only [List.append_nil] at hW'
  obtain ⟨x0, hd0, hl0, hs0⟩ := open_lbs (d := 4) Tryd.underlying22 (by kernel_rfl) (by kernel_rfl) (by kernel_rfl) (hval 0 22 v0 rfl rfl) h0
  have hl0_ : x0.length ≤ 9223372036854775807 := by unfold maxLen at hl0; omega
  obtain ⟨x1, y1, hd1⟩ := open_pt (d := 4) (by kernel_rfl) (by kernel_rfl) (by kernel_rfl) (hval 1 24 v1 rfl rfl) h1 (fun _ => .nilFunc)
  refine (con_calls (w := W) (vs := [v0, v1]) (c_fnExactFormatLine x0 x1 y1 hl0_ hs0) (fun _ => .nilFunc) ⟨hd0, hd1, trivial⟩ hgl).mono fun e W' ⟨he, hb⟩ => ?_
  subst he
  have hlt : ∀ x ∈ p0 ++ p1, x.block < W.heap.size := fun x hx => hW'.lt x hx
  refine ⟨_, rfl, ?_⟩
  show Rows.fnExactFormatLineSpec.post enc Tryd.prog Tryd.f3 false true false false W _ _ W'
  exact post_below (pa := p0 ++ p1) (pv := []) hW' (fun _ _ _ => trodAll_mk1 (shut_bool Tryd.underlying4 _))
    (fun sp hsp => trodAll_stays laidOut (by rw [Tryd.params3]; intro t ht; simp at ht; rcases ht with rfl | rfl <;> exact ⟨by kernel_rfl, of_decide_eq_true (by kernel_rfl)⟩) hA1 (fun x hx => hb.same (hlt x hx)) (fun x hx => hsp x hx))
    (fun _ _ => rfl) (by simp) hb (ok_one (by kernel_rfl) rfl (okWide_bool_mk Tryd.underlying4 _))
theorem row_holds : Rows.FnExactFormatLineSaid :=
  OpenClaim.holds_of_cond 3 Tryd.f3 rfl rfl rfl rfl rfl rfl rfl ⟨rfl, rfl, rfl, rfl, rfl⟩ rfl rfl rfl rfl rfl (by kernel_rfl) Tryd.func3 (by kernel_rfl)
    (of_decide_eq_true (by kernel_rfl)) (by unfold Func.isWrapper; first | (rw [if_pos (by decide +kernel)]; kernel_rfl) | (rw [if_neg (of_decide_eq_false (by kernel_rfl))]; exact ⟨rfl, rfl⟩))
    (fun os started H enc _ F0 => by rw [OpenClaim.pre_eq_preRow]; exact lifted os started H enc F0)
theorem proved : Rows.FnExactFormatLineCardSaid :=
  Claim7.holds_tied_plain_at .later [] [.data, .data, .data] true (true, "f7d2d855e5a4478caf88cff8d0240832320509c57ab7f8398823bf7608f33c39") true
    row_holds (fun _ h => by cases h) (by kernel_rfl) (fun _ h => by cases h) fnExactFormatLine_row_tie rfl ⟨rfl, rfl⟩ (by kernel_rfl) rfl
    (fun f fn hf hfn => by
      obtain rfl : f = 3 := Option.some.inj ((show Tryd.prog.funcNamed "loop.example/metricstore/laws.FnExactFormatLine" = some 3 by kernel_rfl).symm.trans hf) |>.symm
      obtain rfl : fn = Tryd.f3 := (Option.some.inj (Tryd.func3.symm.trans hfn)).symm
      exact ⟨by kernel_rfl, fun j t ht => by
        rw [Tryd.params3] at ht
        match j, ht with
        | 0, ht => obtain rfl : 22 = t := Option.some.inj ht; exact (show Tryd.prog.wantsStandIn 22 = false by kernel_rfl)
        | 1, ht => obtain rfl : 24 = t := Option.some.inj ht; exact (show Tryd.prog.wantsStandIn 24 = false by kernel_rfl)
        | j + 2, ht => simp at ht⟩)
    (by kernel_rfl)
end Go.Proofs.YtllgddednlfhfaaDoor.fnExactFormatLine

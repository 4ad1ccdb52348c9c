/-
  The statement FnSessionQuestions, tied to the program's text, proved for every input.
-/
import Derived.Test.YtfoecgfboicphaaGreatDoorCL30
import Derived.Test.YtfoecgfboicphaaGreatDoorCards
import Derived.Test.YtfoecgfboicphaaGreatDoorTie
import Derived.Deep.DeepHandedRow
import Derived.Deep.DeepWitnessRowRef
import Derived.ProofKit
import Derived.SizedLaws
import Derived.SevenTiedAt
import Derived.Shelf.Vars
import Derived.LaidSub
import Derived.MakeChecks
import Derived.Lib.LaidIn
import Derived.Lib.LaidTab
import Derived.Lib.DecodeN
import Derived.Lib.LaidU8
namespace Go.Proofs.YtfoecgfboicphaaGreatDoor.fnSessionQuestions
open Go.ChangeShapes Go.WideShapes Go.ChangeAt Go.RowKit Go.Lib
set_option linter.unusedVariables false

theorem own : ownKnob Tryz.prog.godebug = none := by kernel_rfl
theorem laidOut : laidOutB Tryz.prog = true := by kernel_rfl
def b32 : List Int := [0, 1, 28, 2, 29, 14, 24, 3, 30, 22, 20, 15, 25, 17, 4, 8, 31, 27, 13, 23, 21, 19, 16, 7, 26, 12, 18, 6, 11, 5, 10, 9]
def b64 : List Int := [0, 1, 56, 2, 57, 49, 28, 3, 61, 58, 42, 50, 38, 29, 17, 4, 62, 47, 59, 36, 45, 43, 51, 22, 53, 39, 33, 30, 24, 18, 12, 5, 63, 55, 48, 27, 60, 41, 37, 16, 46, 35, 44, 21, 52, 32, 23, 11, 54, 26, 40, 15, 34, 20, 31, 10, 25, 14, 19, 9, 13, 8, 7, 6]
noncomputable abbrev N0 : Nat := (World.settled Tryz.prog default).heap.size
noncomputable def laidWorld (os : Os) : World :=
  let N := (World.settled Tryz.prog os).heap.size
  let w0 := World.holding Tryz.prog os ⟨#[.cells #[.string ⟨#[118, 97, 108, 117, 101, 32, 111, 117, 116, 32, 111, 102, 32, 114, 97, 110, 103, 101]⟩] 154, .cells #[.string ⟨#[105, 110, 118, 97, 108, 105, 100, 32, 115, 121, 110, 116, 97, 120]⟩] 154], #[], []⟩
  let put (h : Array Obj) (g : Nat) (cs : Array Value) : Array Obj := h.modify g fun
    | .cells _ t frozen => .cells cs t frozen
    | o => o
  let h1 := put w0.heap 6 (b32.map fun z => Value.int .u8 z).toArray
  let h2 := put h1 7 (b64.map fun z => Value.int .u8 z).toArray
  let h3 := put h2 3 pow10
  let h4 := put h3 5 ((List.range 16).flatMap fun i => [Value.int .u8 (Lib.accLo i), Value.int .u8 (Lib.accHi i)]).toArray
  let h5 := put h4 2 #[.iface 152 (.pointer (some ⟨N, 0, none⟩))]
  let h6 := put h5 1 #[.iface 152 (.pointer (some ⟨N + 1, 0, none⟩))]
  let h7 := put h6 4 (Lib.firstTab.map fun z => Value.int .u8 z).toArray
  { w0 with heap := h7 }
theorem laid_met (os : Os) (args : Array Value) : laidMet Tryz.prog Rows.fnSessionQuestionsRow.laid ((laidWorld os).forCall (fun _ _ => 0) ⟨#[], args, []⟩).memory :=
  (show LaidIn Tryz.prog ((laidWorld os).forCall (fun _ _ => 0) ⟨#[], args, []⟩).memory Rows.fnSessionQuestionsRow.laid [6, 7, 3, 5, 2, N0, 1, N0 + 1, 4] from LaidIn.of_run [6, 7, 3, 5, 2, N0, 1, N0 + 1, 4] 8 (by kernel_rfl) (by kernel_rfl) (by kernel_rfl) (by kernel_rfl)).met
theorem witness_row (os : Os) {H : Type} (enc : TypeId × Value → H) :
    (OpenSpec.ofChange Rows.fnSessionQuestionsSpec).preRow enc Tryz.prog Tryz.f4 Rows.fnSessionQuestionsRow.domain false Rows.fnSessionQuestionsRow.laid ((laidWorld os).forCall (fun _ _ => 0) ⟨#[], #[.slice none 0 0], []⟩).memory #[.slice none 0 0] := by
  have hw : (DataW.whole enc Tryz.prog ((laidWorld os).forCall (fun _ _ => 0) ⟨#[], #[.slice none 0 0], []⟩).memory Tryz.f4.params.toList (OpenSpec.ofChange Rows.fnSessionQuestionsSpec).vars false (#[.slice none 0 0] : Array Value).toList 8).map (fun x => (x.1, x.2.1)) =
      some ([.nil], []) := by kernel_rfl
  obtain ⟨⟨x1, x2, x3⟩, hx, hx1⟩ := Option.map_eq_some_iff.1 hw
  simp only [Prod.mk.injEq] at hx1
  obtain ⟨rfl, rfl⟩ := hx1
  exact OpenSpec.preRow_of_cond 8 hx (by kernel_rfl) (fun k hk => by cases hk) (by kernel_rfl) (laid_met os _)
theorem iface_of_trod {H : Type} {enc : TypeId × Value → H} {P : Program} {w : World} {base : Nat} {sp : Nat → Bool} {held : Bool} {fuel : Nat} {t : TypeId} {ms : Array (String × TypeId)} {cs : List Value} {nm : String} {d0 : DataW H} {p : List MemPlace}
    (ht : P.underlying t = some (.interface ms)) (h : DataW.trod enc P w base sp held fuel t cs = some (.iface nm d0, p)) : ∃ u v, cs = [.iface u v] := by
  cases fuel with
  | zero => simp [DataW.trod] at h
  | succ fuel =>
    cases cs with
    | nil => simp [DataW.trod, ht] at h
    | cons c r =>
      cases r with
      | cons c2 r => simp [DataW.trod, ht] at h
      | nil => cases c <;> first | exact ⟨_, _, rfl⟩ | (simp [DataW.trod, ht] at h; done)
theorem gl_of {W : World} (hL : laidMetH Tryz.prog Rows.fnSessionQuestionsRow.laid W) (hS : W.ShapedOpen Tryz.prog) : Gl (Zw W) W := by
  intro q hq
  rcases List.mem_cons.1 hq with rfl | hq
  · obtain ⟨m, hm⟩ := cell_of_shapedOpen_int (g := 0) (t := 3) (zero := #[.int .i64 0]) (k := .i64) hS (of_decide_eq_true (by kernel_rfl)) (by kernel_rfl) rfl (by kernel_rfl) (by kernel_rfl) Tryz.underlying3
    unfold World.cell? at hm
    split at hm
    · rename_i cs t fr hb
      have hm : cs[0]? = some (.int .i64 m) := by simpa using hm
      exact ⟨(Array.getElem?_eq_some_iff.1 hb).1, _, hb, cs, t, fr, m, rfl, hm⟩
    · cases hm
  rcases List.mem_cons.1 hq with rfl | hq
  · have hL1 : laidMet Tryz.prog Rows.fnSessionQuestionsRow.laid W := by rw [← Go.MakeChecks.laidMetH_plain _ _ _ (by kernel_rfl)]; exact hL
    have hL2 := laidMet.filter (fun x => x.1 == "internal/strconv.uint64pow10") hL1
    rw [show (Rows.fnSessionQuestionsRow.laid.filter fun x => x.1 == "internal/strconv.uint64pow10") = [("internal/strconv.uint64pow10", Lib.tabData .u64 pow10L)] by kernel_rfl] at hL2
    have h3 : Lib.TabIs Tryz.prog W "internal/strconv.uint64pow10" .u64 pow10L :=
      Lib.tabIs_of_head (g := 3) (t := 144) (n := 20) (e := 128) (by kernel_rfl) (by kernel_rfl) (by kernel_rfl) Tryz.underlying128 (by kernel_rfl) (by kernel_rfl) hL2
    have hg : Tryz.prog.globalNamed "internal/strconv.uint64pow10" = some 3 := by kernel_rfl
    unfold Lib.TabIs World.var? at h3
    rw [hg] at h3
    have h3 : (match (W.heap[3]? : Option Obj) with | some (Obj.cells cs _ _) => some cs | _ => none) = some pow10 := h3
    split at h3
    · rename_i cs t fr hb
      cases h3
      exact ⟨(Array.getElem?_eq_some_iff.1 hb).1, _, hb, t, fr, rfl⟩
    · cases h3
  rcases List.mem_cons.1 hq with rfl | hq
  · have hL1 : laidMet Tryz.prog Rows.fnSessionQuestionsRow.laid W := by rw [← Go.MakeChecks.laidMetH_plain _ _ _ (by kernel_rfl)]; exact hL
    have hL2 := laidMet.filter (fun x => x.1 == "strconv.ErrSyntax") hL1
    rw [show (Rows.fnSessionQuestionsRow.laid.filter fun x => x.1 == "strconv.ErrSyntax") = [("strconv.ErrSyntax", Rows.laid_strconv_ErrSyntax)] by kernel_rfl] at hL2
    obtain ⟨ps, ⟨g, t, cs, fuel, p, q, h1, h2, h3, h4, _⟩, _⟩ := hL2
    have hg : Tryz.prog.globalNamed "strconv.ErrSyntax" = some 1 := by kernel_rfl
    obtain rfl : 1 = g := Option.some.inj (hg.symm.trans h1)
    obtain rfl : 52 = t := Option.some.inj ((show (Tryz.prog.globals[1]?).map (·.type) = some 52 by kernel_rfl).symm.trans h2)
    obtain ⟨u, v, hcs⟩ := iface_of_trod Tryz.underlying52 h4
    unfold World.var? at h3
    rw [hg] at h3
    have h3 : (match (W.heap[1]? : Option Obj) with | some (Obj.cells cs _ _) => some cs | _ => none) = some cs := h3
    split at h3
    · rename_i cs' t' fr hb
      obtain rfl : cs' = cs := Option.some.inj h3
      exact ⟨(Array.getElem?_eq_some_iff.1 hb).1, _, hb, cs', t', fr, .iface u v, rfl, by rw [← Array.getElem?_toList, hcs]; rfl, .inr ⟨u, v, rfl⟩⟩
    · cases h3
  · cases hq

set_option maxRecDepth 100000 in
theorem lifted (os : Os) (started : os.Started) (H : Type) (enc : TypeId × Value → H) (F : Stop.Interp) :
    ReturnsInHanded {} Tryz.checked os 4 .any ((OpenSpec.ofChange Rows.fnSessionQuestionsSpec).preRow enc Tryz.prog Tryz.f4 Rows.fnSessionQuestionsRow.domain false Rows.fnSessionQuestionsRow.laid) (((OpenSpec.ofChange Rows.fnSessionQuestionsSpec).at F).post enc Tryz.prog Tryz.f4 false true false false) := by
  refine returnsInHanded_of_row (C := Tryz.checked) (s := OpenSpec.ofChange Rows.fnSessionQuestionsSpec) own started (by kernel_rfl) Tryz.func4
    (witness_row_atRef (enc := enc) (C := Tryz.checked) false (laidWorld os) #[.slice none 0 0] rfl (by kernel_rfl) (by kernel_rfl) (by kernel_rfl) (witness_row os enc)) ?_
  intro W base args ds gs before hval0 hW hcnd0 _ _ hL hS _
  have hval : ∀ (j : Nat) t v, Tryz.f4.params[j]? = some t → args[j]? = some v → Value.okWide Tryz.prog W .any base t v := hval0
  have hgl := gl_of hL hS
  have hW0 : DataW.Whole enc Tryz.prog Tryz.f4.params.toList Rows.fnSessionQuestionsSpec.vars false W args.toList ds gs before := hW
  clear hW
  have hW' := hW0
  obtain ⟨p, q, hA0, hV, rfl, hfz, hnd⟩ := hW0
  have hA : DataW.TrodAll enc Tryz.prog W 0 (fun _ => true) true Tryz.f4.params.toList args.toList ds p := hA0
  have hA1 := hA
  rw [Tryz.params4] at hA hval
  obtain ⟨v0, d0, rfl, rfl, h0⟩ := trodAll_one hA
  obtain ⟨rfl, rfl⟩ := trodVars_none hV
  simp only [List.append_nil] at hW'
  obtain ⟨x0, hd0, hl0⟩ := open_bys (d := 4) Tryz.underlying22 (by kernel_rfl) (by kernel_rfl) (by kernel_rfl) (hval 0 22 v0 rfl rfl) h0
  refine (con_calls (w := W) (vs := [v0]) (c_fnSessionQuestions x0 ) (fun _ => .nilFunc) ⟨hd0, trivial⟩ hgl).mono fun e W' ⟨he, hb⟩ => ?_
  subst he
  have hlt : ∀ x ∈ p, x.block < W.heap.size := fun x hx => hW'.lt x hx
  refine ⟨_, rfl, ?_⟩
  show Rows.fnSessionQuestionsSpec.post enc Tryz.prog Tryz.f4 false true false false W _ _ W'
  exact post_below (pa := p) (pv := []) hW' (fun _ _ _ => trodAll_mk1 (shut_bool Tryz.underlying4 _))
    (fun sp hsp => trodAll_stays laidOut (by rw [Tryz.params4]; intro t ht; simp at ht; rcases ht with rfl <;> exact ⟨by kernel_rfl, of_decide_eq_true (by kernel_rfl)⟩) hA1 (fun x hx => hb.same (hlt x hx)) (fun x hx => hsp x hx))
    (fun _ _ => rfl) (by simp) hb (ok_one (by kernel_rfl) rfl (okWide_bool_mk Tryz.underlying4 _))
theorem row_holds : Rows.FnSessionQuestionsSaid :=
  OpenClaim.holds_of_cond 4 Tryz.f4 rfl rfl rfl rfl rfl rfl rfl ⟨rfl, rfl, rfl, rfl, rfl⟩ rfl rfl rfl rfl rfl (by kernel_rfl) Tryz.func4 (by kernel_rfl)
    (of_decide_eq_true (by kernel_rfl)) (by unfold Func.isWrapper; first | (rw [if_pos (by decide +kernel)]; kernel_rfl) | (rw [if_neg (of_decide_eq_false (by kernel_rfl))]; exact ⟨rfl, rfl⟩))
    (fun os started H enc _ F0 => by rw [OpenClaim.pre_eq_preRow]; exact lifted os started H enc F0)
theorem proved : Rows.FnSessionQuestionsCardSaid :=
  Claim7.holds_tied_plain_at .later [] [.data, .data, .data, .data, .sentinel, .sentinel, .pinned] true (true, "41d019033fb542159c9dff77067cba60868db74ec58b5c6db98c1ac9b0d48f90") true
    row_holds (fun _ h => by cases h) (by kernel_rfl) (fun _ h => by cases h) fnSessionQuestions_row_tie rfl ⟨rfl, rfl⟩ (by kernel_rfl) rfl
    (fun f fn hf hfn => by
      obtain rfl : f = 4 := Option.some.inj ((show Tryz.prog.funcNamed "loop.example/metricstore/laws.FnSessionQuestions" = some 4 by kernel_rfl).symm.trans hf) |>.symm
      obtain rfl : fn = Tryz.f4 := (Option.some.inj (Tryz.func4.symm.trans hfn)).symm
      exact ⟨by kernel_rfl, fun j t ht => by
        rw [Tryz.params4] at ht
        match j, ht with
        | 0, ht => obtain rfl : 22 = t := Option.some.inj ht; exact (show Tryz.prog.wantsStandIn 22 = false by kernel_rfl)
        | j + 1, ht => simp at ht⟩)
    (by kernel_rfl)
end Go.Proofs.YtfoecgfboicphaaGreatDoor.fnSessionQuestions

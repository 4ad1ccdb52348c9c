/-
  From a contract over abstract states to a row of the given statements: the arguments as the record reads them.
-/
import Derived.Test.YtllgddednlfhfaaDoorEng14
import Derived.WalkKit
import Derived.ProofKit
import Derived.OpenShut
import Derived.JoinedCond
import Derived.Below
import Derived.ChangeSame
namespace Go.Proofs.YtllgddednlfhfaaDoor
open Go.ChangeShapes Go.WideShapes Go.ChangeAt Go.RowKit
set_option linter.unusedVariables false
set_option linter.unusedSimpArgs false

section
variable {H : Type} {enc : TypeId × Value → H} {P : Program}
/-- The row's last step where blocks of the call's own may have been frozen: after the guide's text. -/
theorem post_below {f : Func} {s : ChangeSpec} {apart fresh handsOn again : Bool} {W W' : World} {args : Array Value} {v : Value} {ds gs : List (DataW H)} {before pa pv : List MemPlace}
    (hW : DataW.Whole enc P f.params.toList s.vars apart W args.toList ds gs before)
    (hres : ∀ (b : Nat) (sp : Nat → Bool) (hd : Bool), DataW.TrodAll enc P W' b sp hd f.resultTypes.toList (v.resultList f.resultTypes.size) (s.fn H (ds ++ gs)).results [])
    (hargs : ∀ sp : Nat → Bool, (∀ p ∈ before, sp p.block = true) → DataW.TrodAll enc P W' 0 sp true f.params.toList args.toList (s.fn H (ds ++ gs)).args pa)
    (hvars : ∀ sp : Nat → Bool, (∀ p ∈ before, sp p.block = true) → DataW.TrodVars enc P W' sp s.vars (s.fn H (ds ++ gs)).vars pv)
    (hps : before = pa ++ pv) (hb : Below W.heap.size W W')
    (hok : ∀ (j : Nat) (t : TypeId) (r : Value), f.resultTypes[j]? = some t → (v.resultList f.resultTypes.size)[j]? = some r → Value.okWide P W' .any 0 t r) :
    s.post enc P f apart fresh handsOn again W args v W' := by
  have hlt : ∀ p ∈ before, p.block < W.heap.size := fun p hp => hW.lt p hp
  have hold : ∀ p ∈ before, (fun b => decide (b < W.heap.size)) p.block = true := fun p hp => by simpa using hlt p hp
  refine ⟨ds, gs, before, [], pa, pv, hW, hres _ _ _, hargs _ hold, hvars _ hold, World.keptBut_mono (fun p hp => ⟨hp, ?_⟩) (hb.frame (· ∈ before)), fun _ => ?_⟩
  · rw [hps, List.mem_append] at hp
    exact Or.inr hp
  · obtain ⟨_, _, _, _, _, hz, hn⟩ := hW
    refine ⟨hok, _, _, ([] ++ pa) ++ pv, ⟨[] ++ pa, pv, trodAll_append (hargs _ (fun _ _ => rfl)) (hres _ _ _), hvars _ (fun _ _ => rfl), rfl, ?_, ?_⟩, ?_⟩
    · intro b off hp
      have hin : MemPlace.cell b off ∈ before := by rw [hps]; simpa using hp
      rw [hb.frozen (hlt _ hin)]
      exact hz b off hin
    · intro ha
      have := hn ha
      rw [hps] at this
      simpa using this
    · intro p hp _
      rw [hps]
      simpa using hp

/-- Everything that came in reads as it did. -/
theorem trodAll_stays (hl : laidOutB P = true) {W W' : World} {sp : Nat → Bool} : ∀ {ts : List TypeId} {vs : List Value} {ds : List (DataW H)} {ps : List MemPlace}, (∀ t ∈ ts, P.readableRec t = true ∧ t < P.types.size) →
    DataW.TrodAll enc P W 0 (fun _ => true) true ts vs ds ps → (∀ x ∈ ps, W.sameAt W' x) → (∀ x ∈ ps, sp x.block = true) → DataW.TrodAll enc P W' 0 sp true ts vs ds ps
  | [], [], [], ps, _, h, _, _ => h
  | t :: ts, v :: vs, d :: ds, ps, hr, h, h1, h2 => by
    obtain ⟨p, q, hp, hq, rfl⟩ := h
    refine ⟨p, q, WideElems.Trod_stays hl (hr t (.head _)).1 (hr t (.head _)).2 hp (fun x hx => h1 x (by simp [hx])) (fun x hx => h2 x (by simp [hx])), ?_, rfl⟩
    exact trodAll_stays hl (fun t ht => hr t (.tail _ ht)) hq (fun x hx => h1 x (by simp [hx])) (fun x hx => h2 x (by simp [hx]))
  | [], _ :: _, _, _, _, h, _, _ => by cases h
  | [], [], _ :: _, _, _, h, _, _ => by cases h
  | _ :: _, [], _, _, _, h, _, _ => by cases h
  | _ :: _, _ :: _, [], _, _, h, _, _ => by cases h

/-- every block that is there -/
def Zw (W : World) (g : Nat) : Prop := g < W.heap.size
theorem zw_of_cell {W : World} {a : Addr} {v : Value} (h : W.cell? a = some v) : Zw W a.block := by
  rcases Nat.lt_or_ge a.block W.heap.size with h1 | h1
  · exact h1
  · rw [World.cell?, Array.getElem?_eq_none h1] at h; cases h

/-- A slice of whole numbers that came in. -/
theorem opened_ints {t e : TypeId} {k : IntKind} (ht : P.underlying t = some (.slice e)) (he : P.underlying e = some (.int k)) (hc : P.cellsOf e = 1) {W : World} {base : Nat} {v : Value} {d : DataW H} {p : List MemPlace}
    (hval : Value.okWide P W .any base t v) (h : DataW.Trod enc P W 0 (fun _ => true) true t v d p) :
    ∃ zs : List Int, DC (Zw W) W (.sl 1 (zs.map fun z => [.raw (.int k z)])) v ∧ ∀ z ∈ zs, (Lit.int k z).wf = true := by
  obtain ⟨a1, len, cap, rfl⟩ := okWide_slice ht hval
  obtain ⟨fuel, hf⟩ := h
  rcases open_ints ht he hc hf with ⟨hcs, hx⟩ | ⟨a, len', cap', zs, hcs, _, hl, hm, hz, hx, hcell, hwz⟩
  · simp [Value.cells] at hcs
    obtain ⟨rfl, rfl, rfl⟩ := hcs
    exact ⟨[], .nil 1 none 0 (Nat.zero_le _), fun z hz => by cases hz⟩
  · simp [Value.cells] at hcs
    obtain ⟨rfl, rfl, rfl⟩ := hcs
    simp only [if_true] at hz
    refine ⟨zs.take len, ?_, fun z hz' => hwz z (List.mem_of_mem_take hz')⟩
    rcases Nat.eq_zero_or_pos len with h0 | h0
    · subst h0
      exact .nil 1 _ _ hm
    · have hcc := hcell 0 (by omega)
      obtain ⟨ab, ao, spot⟩ := a
      have hspot : spot = none := by simpa [Addr.add] using World.cell?_spot hcc
      subst hspot
      have hlen : (zs.take len).length = len := by simp; omega
      have hfl : ((zs.take len).map fun z => [CV.raw (.int k z)]).flatten = (zs.take len).map fun z => CV.raw (.int k z) := flatten_ones' _ _
      refine .sl 1 _ ab ao len cap ((zs.take len).map fun z => .int k z) (by simp; omega) (fun r hr => by obtain ⟨z, _, rfl⟩ := List.mem_map.1 hr; rfl) (by have := zw_of_cell hcc; simpa [Addr.add] using this) hl hm (by rw [hfl]; simp) (fun j u hu => ?_) (fun j h1 h2 => ?_)
      · have hj : j < len := by have := (List.getElem?_eq_some_iff.1 hu).1; simp at this; omega
        have h3 := hcell j (by omega)
        rw [Addr.add_lit] at h3
        rw [h3, ← hu]
        simp [List.getElem?_take, hj, List.getD, List.getElem?_eq_getElem (show j < zs.length by omega)]
      · simp only [hfl, List.getElem_map]
        exact .raw _ rfl
where
  flatten_ones' : ∀ {α β : Type} (f : α → β) (xs : List α), (xs.map fun z => [f z]).flatten = xs.map f
    | _, _, _, [] => rfl
    | _, _, f, x :: xs => by simp [flatten_ones' f xs]
end

/-- What a contract without objects says of a call. -/
theorem con_calls {P : Program} {f : FuncId} {args : List AR} {b : Value} (hc : Con P f args [] (fun rs all => rs = [.one (.c (.raw b))] ∧ all = [])) {w : World} {vs : List Value} (ρ : Nat → Value) (hd : DRL ρ (Zw w) w args vs) (hgl : Gl (Zw w) w := by intro q hq; exact absurd hq (by simp [globs])) :
    Calls P f vs.toArray w fun e w' => e = .returned b ∧ Below w.heap.size w w' := by
  refine (hc.run w ρ (Zw w) vs ⟨hd, fun i => trivial, fun i j g hi => (by cases hi), fun i g hi => (by cases hi), fun g hg => hg, hgl⟩).mono fun e w' ⟨rs, all, us, ρ', Z', ⟨h1, h2⟩, _, h3, h4⟩ => ?_
  subst h1 h2
  have hr := h4.res
  match us, hr with
  | [u], hr =>
    have hu : u = b := by
      have h5 : DC Z' w' (.raw b) u := hr.1
      cases h5; rfl
    subst hu
    exact ⟨h3, h4.os, h4.tape, h4.output, h4.size, fun k hk => h4.old k hk (by rintro ⟨i, hi, _⟩; cases hi)⟩
end Go.Proofs.YtllgddednlfhfaaDoor

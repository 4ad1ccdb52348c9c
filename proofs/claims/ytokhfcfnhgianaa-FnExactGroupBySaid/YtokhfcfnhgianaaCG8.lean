/- Texts: Eng15 Eng19 Eng29 Eng18 Eng20 Eng21 Eng22 Eng24 W60 W1 Eng27 -/
import Derived.Test.YtokhfcfnhgianaaCG7
import Derived.WalkKit
import Derived.ProofKit
import Derived.OpenShut
import Derived.JoinedCond
import Derived.Below
import Derived.ChangeSame
import Derived.Lib.Bytealg
import Derived.Laws.Externs
import Derived.Lib.SlBytesRow
/-
  From a contract over abstract states to a row of the given statements: the arguments as the record reads them.
-/
namespace Go.Proofs.Ytokhfcfnhgianaa
open Go.ChangeShapes Go.WideShapes Go.ChangeAt Go.RowKit
set_option linter.unusedVariables false
set_option linter.unusedSimpArgs false

section
variable {H : Type} {enc : TypeId × Value → H} {P : Program}
/-- The row's last step where blocks of the call's own may have been frozen: after the guide's text. -/
theorem post_below {f : Func} {s : ChangeSpec} {apart fresh handsOn again : Bool} {W W' : World} {args : Array Value} {v : Value} {ds gs : List (DataW H)} {before pa pv : List MemPlace}
    (hW : DataW.Whole enc P f.params.toList s.vars apart W args.toList ds gs before)
    (hres : ∀ (b : Nat) (sp : Nat → Bool) (hd : Bool), DataW.TrodAll enc P W' b sp hd f.resultTypes.toList (v.resultList f.resultTypes.size) (s.fn H (ds ++ gs)).results [])
    (hargs : ∀ sp : Nat → Bool, (∀ p ∈ before, sp p.block = true) → DataW.TrodAll enc P W' 0 sp true f.params.toList args.toList (s.fn H (ds ++ gs)).args pa)
    (hvars : ∀ sp : Nat → Bool, (∀ p ∈ before, sp p.block = true) → DataW.TrodVars enc P W' sp s.vars (s.fn H (ds ++ gs)).vars pv)
    (hps : before = pa ++ pv) (hb : Below W.heap.size W W')
    (hok : ∀ (j : Nat) (t : TypeId) (r : Value), f.resultTypes[j]? = some t → (v.resultList f.resultTypes.size)[j]? = some r → Value.okWide P W' .any 0 t r) :
    s.post enc P f apart fresh handsOn again W args v W' := by
  have hlt : ∀ p ∈ before, p.block < W.heap.size := fun p hp => hW.lt p hp
  have hold : ∀ p ∈ before, (fun b => decide (b < W.heap.size)) p.block = true := fun p hp => by simpa using hlt p hp
  refine ⟨ds, gs, before, [], pa, pv, hW, hres _ _ _, hargs _ hold, hvars _ hold, World.keptBut_mono (fun p hp => ⟨hp, ?_⟩) (hb.frame (· ∈ before)), fun _ => ?_⟩
  · rw [hps, List.mem_append] at hp
    exact Or.inr hp
  · obtain ⟨_, _, _, _, _, hz, hn⟩ := hW
    refine ⟨hok, _, _, ([] ++ pa) ++ pv, ⟨[] ++ pa, pv, trodAll_append (hargs _ (fun _ _ => rfl)) (hres _ _ _), hvars _ (fun _ _ => rfl), rfl, ?_, ?_⟩, ?_⟩
    · intro b off hp
      have hin : MemPlace.cell b off ∈ before := by rw [hps]; simpa using hp
      rw [hb.frozen (hlt _ hin)]
      exact hz b off hin
    · intro ha
      have := hn ha
      rw [hps] at this
      simpa using this
    · intro p hp _
      rw [hps]
      simpa using hp

/-- Everything that came in reads as it did. -/
theorem trodAll_stays (hl : laidOutB P = true) {W W' : World} {sp : Nat → Bool} : ∀ {ts : List TypeId} {vs : List Value} {ds : List (DataW H)} {ps : List MemPlace}, (∀ t ∈ ts, P.readableRec t = true ∧ t < P.types.size) →
    DataW.TrodAll enc P W 0 (fun _ => true) true ts vs ds ps → (∀ x ∈ ps, W.sameAt W' x) → (∀ x ∈ ps, sp x.block = true) → DataW.TrodAll enc P W' 0 sp true ts vs ds ps
  | [], [], [], ps, _, h, _, _ => h
  | t :: ts, v :: vs, d :: ds, ps, hr, h, h1, h2 => by
    obtain ⟨p, q, hp, hq, rfl⟩ := h
    refine ⟨p, q, WideElems.Trod_stays hl (hr t (.head _)).1 (hr t (.head _)).2 hp (fun x hx => h1 x (by simp [hx])) (fun x hx => h2 x (by simp [hx])), ?_, rfl⟩
    exact trodAll_stays hl (fun t ht => hr t (.tail _ ht)) hq (fun x hx => h1 x (by simp [hx])) (fun x hx => h2 x (by simp [hx]))
  | [], _ :: _, _, _, _, h, _, _ => by cases h
  | [], [], _ :: _, _, _, h, _, _ => by cases h
  | _ :: _, [], _, _, _, h, _, _ => by cases h
  | _ :: _, _ :: _, [], _, _, h, _, _ => by cases h

/-- every block that is there -/
def Zw (W : World) (g : Nat) : Prop := g < W.heap.size
theorem zw_of_cell {W : World} {a : Addr} {v : Value} (h : W.cell? a = some v) : Zw W a.block := by
  rcases Nat.lt_or_ge a.block W.heap.size with h1 | h1
  · exact h1
  · rw [World.cell?, Array.getElem?_eq_none h1] at h; cases h

end

/-- What a contract without objects says of a call. -/
theorem con_calls {P : Program} {f : FuncId} {args : List AR} {b : Value} (hc : Con P f args [] (fun rs all => rs = [.one (.c (.raw b))] ∧ all = [])) {w : World} {vs : List Value} (ρ : Nat → Value) (hd : DRL ρ (Zw w) w args vs) (hgl : Gl (Zw w) w := by intro q hq; exact absurd hq (by simp [globs])) :
    Calls P f vs.toArray w fun e w' => e = .returned b ∧ Below w.heap.size w w' := by
  refine (hc.run w ρ (Zw w) vs ⟨hd, fun i => trivial, fun i j g hi => (by cases hi), fun i g hi => (by cases hi), fun g hg => hg, hgl⟩).mono fun e w' ⟨rs, all, us, ρ', Z', ⟨h1, h2⟩, _, h3, h4⟩ => ?_
  subst h1 h2
  have hr := h4.res
  match us, hr with
  | [u], hr =>
    have hu : u = b := by
      have h5 : DC Z' w' (.raw b) u := hr.1
      cases h5; rfl
    subst hu
    exact ⟨h3, h4.os, h4.tape, h4.output, h4.size, fun k hk => h4.old k hk (by rintro ⟨i, hi, _⟩; cases hi)⟩
end Go.Proofs.Ytokhfcfnhgianaa
/-
  The arguments of the exact statements, as the record reads them: any plain type.
-/
namespace Go.Proofs.Ytokhfcfnhgianaa
open Go.ChangeShapes Go.WideShapes Go.ChangeAt Go.RowKit
set_option linter.unusedVariables false
set_option linter.unusedSimpArgs false
mutual
/-- Data of a type, as cells. -/
inductive Shp (P : Program) : TypeId → List CV → Prop where
  | int {t : TypeId} {k : IntKind} {n : Int} : P.underlying t = some (.int k) → (Lit.int k n).wf = true → Shp P t [.raw (.int k n)]
  | str {t : TypeId} {s : List UInt8} : P.underlying t = some .string → s.length ≤ maxLen → Shp P t [.raw (.string ⟨s.toArray⟩)]
  | slice {t e : TypeId} {rows : List (List CV)} : P.underlying t = some (.slice e) → (∀ r ∈ rows, Shp P e r) → rows.length ≤ maxLen → Shp P t [.sl (P.cellsOf e) rows]
  | struct {t : TypeId} {fs : Array Field} {cvs : List CV} : P.underlying t = some (.struct fs) → ShpL P fs.toList cvs → Shp P t cvs
inductive ShpL (P : Program) : List Field → List CV → Prop where
  | nil : ShpL P [] []
  | cons {f : Field} {fs : List Field} {xs ys : List CV} : Shp P f.type xs → ShpL P fs ys → ShpL P (f :: fs) (xs ++ ys)
end
def tiles (P : Program) : Nat → List Field → Option Nat
  | o, [] => some o
  | o, f :: fs => if f.offset = o then tiles P (o + P.cellsOf f.type) fs else none
def plainT (P : Program) : Nat → TypeId → Bool
  | 0, _ => false
  | d + 1, t => match P.underlying t with
    | some (.int _) => true
    | some .string => true
    | some (.slice e) => Nat.blt 0 (P.cellsOf e) && plainT P d e
    | some (.struct fs) => (tiles P 0 fs.toList == some (P.cellsOf t)) && fs.toList.all fun f => plainT P d f.type
    | _ => false
section
variable {H : Type} {enc : TypeId × Value → H} {P : Program} {W : World}
theorem fields_dl {cs : List Value} {m : Nat} (hm : cs.length = m) : ∀ {fs : List Field} {o : Nat}, tiles P o fs = some m → (∀ f ∈ fs, ∃ cvs, Shp P f.type cvs ∧ DL (Zw W) W cvs ((cs.drop f.offset).take (P.cellsOf f.type))) →
    ∃ cvs, ShpL P fs cvs ∧ DL (Zw W) W cvs (cs.drop o)
  | [], o, ht, _ => by
    simp only [tiles, Option.some.injEq] at ht
    subst ht hm
    exact ⟨[], .nil, by rw [List.drop_length]; trivial⟩
  | f :: fs, o, ht, h => by
    simp only [tiles] at ht
    split at ht
    · rename_i ho
      obtain ⟨xs, h1, h2⟩ := h f (.head _)
      obtain ⟨ys, h3, h4⟩ := fields_dl hm ht (fun g hg => h g (.tail _ hg))
      refine ⟨xs ++ ys, .cons h1 h3, ?_⟩
      have e : cs.drop o = (cs.drop f.offset).take (P.cellsOf f.type) ++ cs.drop (o + P.cellsOf f.type) := by
        rw [ho, ← List.drop_drop, List.take_append_drop]
      rw [e]
      exact h2.append h4
    · cases ht
theorem trod_dl : ∀ (d : Nat) (t : TypeId), plainT P d t = true → ∀ (fuel : Nat) (cs : List Value) (x : DataW H × List MemPlace), DataW.trod enc P W 0 (fun _ => true) true fuel t cs = some x → ∃ cvs, Shp P t cvs ∧ DL (Zw W) W cvs cs
  | 0, _, h, _, _, _, _ => by cases h
  | d + 1, t, hp, fuel, cs, x, h => by
    unfold plainT at hp
    split at hp
    · rename_i k hu
      obtain ⟨n, rfl, _, hw⟩ := DataW.trod_int hu h
      exact ⟨_, .int hu hw, .raw _ rfl, trivial⟩
    · rename_i hu
      obtain ⟨s, rfl, _, hs⟩ := DataW.trod_string hu h
      obtain ⟨⟨s⟩⟩ := s
      exact ⟨[.raw (.string ⟨⟨s⟩⟩)], .str (s := s) hu hs, .raw _ rfl, trivial⟩
    · rename_i e hu
      simp only [Bool.and_eq_true] at hp
      have hpos : 0 < P.cellsOf e := blt_lt hp.1
      rcases DataW.trod_slice hu h with ⟨rfl, _⟩ | ⟨a, len, cap, elems, rest, n, _, rfl, _, _, hl, hm, hlen, hel, _⟩
      · exact ⟨[.sl (P.cellsOf e) []], .slice hu (fun r hr => by cases hr) (Nat.zero_le _), .nil _ none 0 (Nat.zero_le _), trivial⟩
      · rcases Nat.eq_zero_or_pos len with h0 | h0
        · subst h0
          exact ⟨[.sl (P.cellsOf e) []], .slice hu (fun r hr => by cases hr) (Nat.zero_le _), .nil _ _ _ hm, trivial⟩
        have hspot : a.spot = none := by
          have h6 := hel 0 h0
          obtain ⟨y, hy⟩ : ∃ y, elems[0]? = some y := ⟨_, List.getElem?_eq_getElem (by omega)⟩
          rw [hy, Option.bind_eq_some_iff] at h6
          obtain ⟨cs', h7, h8⟩ := h6
          obtain ⟨_, h9, h10⟩ := World.cells?_some h7
          have h11 := h10 0 hpos
          rw [List.getElem?_eq_getElem (by omega)] at h11
          have h12 := World.cell?_spot h11
          simpa [Addr.add] using h12
        obtain ⟨ab, ao, spot⟩ := a
        simp only at hspot
        subst hspot
        have key : ∀ m, m ≤ len → ∃ (rows : List (List CV)) (us : List Value), rows.length = m ∧ (∀ r ∈ rows, r.length = P.cellsOf e ∧ Shp P e r) ∧ DL (Zw W) W rows.flatten us ∧ us.length = m * P.cellsOf e ∧ ∀ k u, us[k]? = some u → W.cell? ⟨ab, ao + k, none⟩ = some u := by
          intro m
          induction m with
          | zero => exact fun _ => ⟨[], [], rfl, fun r hr => (by cases hr), trivial, by simp, fun k u hk => (by simp at hk)⟩
          | succ m ih =>
            intro hml
            obtain ⟨rows, us, h1, h2, h3, h4, h5⟩ := ih (by omega)
            have h6 := hel m (by omega)
            obtain ⟨y, hy⟩ : ∃ y, elems[m]? = some y := ⟨_, List.getElem?_eq_getElem (by omega)⟩
            rw [hy, Option.bind_eq_some_iff, Addr.add_lit] at h6
            obtain ⟨cs', h7, h8⟩ := h6
            obtain ⟨_, h9, h10⟩ := World.cells?_some h7
            obtain ⟨r, h11, h12⟩ := trod_dl d e hp.2 n cs' y h8
            refine ⟨rows ++ [r], us ++ cs', by simp [h1], fun r' hr' => ?_, by rw [List.flatten_append]; exact h3.append (by simpa using h12), by rw [List.length_append, h4, h9, Nat.add_mul, Nat.one_mul], fun k u hk => ?_⟩
            · rcases List.mem_append.1 hr' with hr' | hr'
              · exact h2 r' hr'
              · rw [List.mem_singleton] at hr'; subst hr'; exact ⟨by rw [← h12.len, h9], h11⟩
            · rcases Nat.lt_or_ge k us.length with hk1 | hk1
              · rw [List.getElem?_append_left hk1] at hk; exact h5 k u hk
              · rw [List.getElem?_append_right hk1] at hk
                have hk2 := (List.getElem?_eq_some_iff.1 hk).1
                have h13 := h10 (k - us.length) (by omega)
                rw [hk, Addr.add_lit, show ao + m * P.cellsOf e + (k - us.length) = ao + k by omega] at h13
                exact h13
        obtain ⟨rows, us, h1, h2, h3, h4, h5⟩ := key len (Nat.le_refl _)
        refine ⟨[.sl (P.cellsOf e) rows], .slice hu (fun r hr => (h2 r hr).2) (by omega), ?_, trivial⟩
        have hus : 0 < us.length := by rw [h4]; exact Nat.mul_pos h0 hpos
        have hcc := h5 0 us[0] (List.getElem?_eq_getElem hus)
        exact .sl _ rows ab ao len cap us h1 (fun r hr => (h2 r hr).1) (zw_of_cell hcc) hl hm h3.len h5 (fun k hk hk' => h3.at k hk hk')
    · rename_i fs hu
      simp only [Bool.and_eq_true, beq_iff_eq, List.all_eq_true] at hp
      obtain ⟨xs, n, _, _, hcl, hxl, hf⟩ := DataW.trod_struct hu h
      obtain ⟨cvs, h1, h2⟩ := fields_dl (W := W) hcl hp.1 (fun f hfm => by
        obtain ⟨i, hi⟩ := List.getElem?_of_mem hfm
        have hi' : fs[i]? = some f := by simpa using hi
        have h3 := hf i f hi'
        obtain ⟨y, hy⟩ : ∃ y, xs[i]? = some y := ⟨_, List.getElem?_eq_getElem (by have := (Array.getElem?_eq_some_iff.1 hi').1; omega)⟩
        rw [hy] at h3
        exact trod_dl d f.type (hp.2 f hfm) n _ y h3)
      exact ⟨cvs, .struct hu h1, by simpa using h2⟩
    · cases hp
/-- A parameter of a type of one cell. -/
theorem open_one {d : Nat} {t : TypeId} (hp : plainT P d t = true) {v : Value} {dd : DataW H} {p : List MemPlace} (h1 : v.cells = #[v]) (h : DataW.Trod enc P W 0 (fun _ => true) true t v dd p) : ∃ c, Shp P t [c] ∧ DC (Zw W) W c v := by
  obtain ⟨fuel, hf⟩ := h
  obtain ⟨cvs, h2, h3⟩ := trod_dl d t hp fuel _ _ hf
  rw [h1] at h3
  match cvs, h3 with
  | [c], h3 => exact ⟨c, h2, h3.1⟩
  | [], h3 => exact h3.elim
  | _ :: _ :: _, h3 => exact h3.2.elim
theorem shp_s {t : TypeId} {cvs : List CV} (h : Shp P t cvs) (ht : P.underlying t = some .string) : ∃ s : Str, cvs = [cS s] ∧ s.length ≤ maxLen := by
  cases h with
  | int hu => rw [ht] at hu; cases hu
  | str hu hs => exact ⟨_, rfl, hs⟩
  | slice hu => rw [ht] at hu; cases hu
  | struct hu => rw [ht] at hu; cases hu
theorem shp_sl {t e : TypeId} {cvs : List CV} (h : Shp P t cvs) (ht : P.underlying t = some (.slice e)) : ∃ rows : List (List CV), cvs = [.sl (P.cellsOf e) rows] ∧ rows.length ≤ maxLen ∧ ∀ r ∈ rows, Shp P e r := by
  cases h with
  | int hu => rw [ht] at hu; cases hu
  | str hu => rw [ht] at hu; cases hu
  | slice hu h1 h2 => rw [ht] at hu; cases hu; exact ⟨_, rfl, h2, h1⟩
  | struct hu => rw [ht] at hu; cases hu
theorem shp_st {t : TypeId} {fs : Array Field} {cvs : List CV} (h : Shp P t cvs) (ht : P.underlying t = some (.struct fs)) : ShpL P fs.toList cvs := by
  cases h with
  | int hu => rw [ht] at hu; cases hu
  | str hu => rw [ht] at hu; cases hu
  | slice hu => rw [ht] at hu; cases hu
  | struct hu h1 => rw [ht] at hu; cases hu; exact h1
theorem shpL_cons {f : Field} {fs : List Field} {cvs : List CV} (h : ShpL P (f :: fs) cvs) : ∃ xs ys, cvs = xs ++ ys ∧ Shp P f.type xs ∧ ShpL P fs ys := by
  cases h with
  | cons h1 h2 => exact ⟨_, _, rfl, h1, h2⟩
theorem shpL_nil {cvs : List CV} (h : ShpL P [] cvs) : cvs = [] := by cases h; rfl
/-- Rows of a kind, as a list. -/
theorem rows_of {α : Type} {f : α → List CV} : ∀ {rows : List (List CV)}, (∀ r ∈ rows, ∃ a, r = f a) → ∃ xs : List α, rows = xs.map f
  | [], _ => ⟨[], rfl⟩
  | r :: rows, h => by
    obtain ⟨a, rfl⟩ := h r (.head _)
    obtain ⟨xs, rfl⟩ := rows_of (rows := rows) (fun r hr => h r (.tail _ hr))
    exact ⟨a :: xs, rfl⟩
def isLb (P : Program) (t : TypeId) : Bool := match P.underlying t with | some (.struct fs) => (match fs.toList with | [f, g] => isStr P f.type && isStr P g.type | _ => false) | _ => false
theorem shp_lb {t : TypeId} {cvs : List CV} (h : Shp P t cvs) (ht : isLb P t = true) : ∃ p : Str × Str, cvs = lbR p ∧ p.1.length ≤ maxLen ∧ p.2.length ≤ maxLen := by
  unfold isLb at ht
  split at ht
  · rename_i fs hu
    have h1 := shp_st h hu
    split at ht
    · rename_i f g he
      rw [he] at h1
      simp only [Bool.and_eq_true] at ht
      obtain ⟨xs, ys, rfl, h2, h3⟩ := shpL_cons h1
      obtain ⟨xs', ys', rfl, h4, h5⟩ := shpL_cons h3
      obtain ⟨a, rfl, ha⟩ := shp_s h2 (isStr_of ht.1)
      obtain ⟨b, rfl, hb⟩ := shp_s h4 (isStr_of ht.2)
      rw [shpL_nil h5]
      exact ⟨(a, b), rfl, ha, hb⟩
    · cases ht
  · cases ht
theorem open_num {t : TypeId} (ht : P.underlying t = some (.int .i64)) {base : Nat} {v : Value} {dd : DataW H} {p : List MemPlace}
    (hval : Value.okWide P W .any base t v) (h : DataW.Trod enc P W 0 (fun _ => true) true t v dd p) : ∃ n : Int, DC (Zw W) W (cI n) v ∧ -9223372036854775808 ≤ n ∧ n ≤ 9223372036854775807 := by
  obtain ⟨n, h1, _, _, h2⟩ := open_int ht hval h
  subst h1
  exact ⟨n, .raw _ rfl, by simpa [Lit.wf, IntKind.min, IntKind.max, IntKind.signed, IntKind.bits] using h2⟩
end
end Go.Proofs.Ytokhfcfnhgianaa
/-
  The place of a byte in a string; contracts of the shelf as ours.
-/
namespace Go.Proofs.Ytokhfcfnhgianaa
open Go.RowKit
set_option linter.unusedVariables false
set_option linter.unusedSimpArgs false
/-- What the shelf says of a function that writes nothing of ours is a contract. -/
theorem con_of_below {P : Program} {f : FuncId} {args : List AR} {v : Value} (hv : v.oneCell' = true) (hok : fnOk P f = true)
    (H : ∀ (w : World) (ρ : Nat → Value) (Z : Nat → Prop) (vs : List Value), DRL ρ Z w args vs → (∀ g, Z g → g < w.heap.size) → Calls P f vs.toArray w fun e w' => e = .returned v ∧ Below w.heap.size w w') :
    Con P f args [] (fun rs all => rs = [.one (.c (.raw v))] ∧ all = []) :=
  ⟨hok, fun w ρ Z vs he => (H w ρ Z vs he.args he.zlt).mono fun e w' ⟨h1, h2⟩ =>
    ⟨[.one (.c (.raw v))], [], [v], ρ, Z, ⟨rfl, rfl⟩, Nat.le_refl _, h1, by
      exact ⟨⟨.raw _ hv, trivial⟩, fun i => trivial, fun i hi => rfl, fun i j g hi => by simp [obAt, OB.live] at hi, fun i g hi => by simp [obAt, OB.live] at hi, fun g hg => hg, fun g hg => .inl hg,
        fun g hg => Nat.lt_of_lt_of_le (he.zlt g hg) h2.size, ⟨rfl, rfl⟩, h2.os, h2.tape, h2.output, h2.size, fun g hg _ => h2.block g hg⟩⟩⟩
end Go.Proofs.Ytokhfcfnhgianaa
/-
  Calls in drawn regions that hand out a slice of their own; appends in drawn regions.
-/
namespace Go.Proofs.Ytokhfcfnhgianaa
open Go.RowKit
set_option linter.unusedVariables false
set_option linter.unusedSimpArgs false

end Go.Proofs.Ytokhfcfnhgianaa
/-
  Fields of struct values; boxes whose fields hold slices; calls that hand out several objects; appends in drawn regions.
-/
namespace Go.Proofs.Ytokhfcfnhgianaa
open Go.RowKit
set_option linter.unusedVariables false
set_option linter.unusedSimpArgs false


def BoxC (O : Nat → OB) (x y : A1) : Prop := x = y ∨ (∃ t wd rows, x = .own t ∧ O t = .froz wd rows ∧ y = .c (.sl wd rows)) ∨ ∃ wd, x = .c (.raw (.slice none 0 0)) ∧ y = .c (.sl wd [])
def BoxCL (O : Nat → OB) : List A1 → List A1 → Prop
  | [], [] => True
  | x :: xs, y :: ys => BoxC O x y ∧ BoxCL O xs ys
  | _, _ => False
theorem BoxC.same {O : Nat → OB} {x : A1} : BoxC O x x := .inl rfl
theorem BoxC.froz {O : Nat → OB} {t wd : Nat} {rows : List (List CV)} (h : O t = .froz wd rows) : BoxC O (.own t) (.c (.sl wd rows)) := .inr (.inl ⟨t, wd, rows, rfl, h, rfl⟩)
theorem BoxC.nil {O : Nat → OB} {wd : Nat} : BoxC O (.c (.raw (.slice none 0 0))) (.c (.sl wd [])) := .inr (.inr ⟨wd, rfl, rfl⟩)
theorem BoxCL.nil {O : Nat → OB} : BoxCL O [] [] := trivial
theorem BoxCL.cons {O : Nat → OB} {x y : A1} {xs ys : List A1} (h : BoxC O x y) (k : BoxCL O xs ys) : BoxCL O (x :: xs) (y :: ys) := ⟨h, k⟩
theorem BoxCL.d1l {ρ : Nat → Value} {Z : Nat → Prop} {w : World} {O : Nat → OB} (hg : ∀ t, DO ρ Z w t (O t)) : ∀ {xs ys : List A1} {us : List Value}, BoxCL O xs ys → D1L ρ Z w xs us → D1L ρ Z w ys us
  | [], [], _, _, h => h
  | x :: xs, y :: ys, u :: us, h, hd => by
    refine ⟨?_, BoxCL.d1l hg h.2 hd.2⟩
    rcases h.1 with e | ⟨t, wd, rows, e1, e2, e3⟩ | ⟨wd, e1, e2⟩
    · subst e; exact hd.1
    · subst e1 e3
      have h1 := hg t
      rw [e2] at h1
      have h2 : u = ρ t := hd.1.1
      rw [h2]; exact h1
    · subst e1 e2
      have h1 : DC Z w (.raw (.slice none 0 0)) u := hd.1
      cases h1
      exact DC.nil wd none 0 (by simp)
  | _ :: _, _ :: _, [], _, hd => hd.elim
  | [], _ :: _, _, h, _ => h.elim
  | _ :: _, [], _, h, _ => h.elim
theorem BoxCL.tags {O : Nat → OB} {s : Nat} : ∀ {xs ys : List A1}, BoxCL O xs ys → s ∈ ys.flatMap (fun x => x.tag.toList) → s ∈ xs.flatMap (fun x => x.tag.toList)
  | [], [], _, h => h
  | x :: xs, y :: ys, h, hs => by
    rw [List.flatMap_cons, List.mem_append] at hs ⊢
    rcases hs with hs | hs
    · rcases h.1 with e | ⟨t, wd, rows, e1, e2, e3⟩ | ⟨wd, e1, e2⟩
      · subst e; exact .inl hs
      · subst e3; simp [A1.tag] at hs
      · subst e2; simp [A1.tag] at hs
    · exact .inr (BoxCL.tags h.2 hs)
  | [], _ :: _, h, _ => h.elim
  | _ :: _, [], h, _ => h.elim

section
variable {P : Program} {ops : Array Oper} {cx : Cx} {Q : APost} {rest : List Oper} {l : SL} {m : OL} {n : Nat}
variable {d : Nat} {ty : TypeId} {pos : String} {af : Array Edge} {f : FuncId} {xs : List Operand} {ats : Array TypeId} {args : List AR}
/-- results and new objects, both known -/
theorem al_callG {rs0 : List AR} {obs0 : List OB} (ha : Args (lk .dead l) (lk .gone m) (cpi [] n) false xs args) (hd : Nat.blt d cx.N = true) (hc : Con P f args [] (fun rs all => rs = rs0 ∧ all = obs0))
    (k : AL P ops cx Q rest ((d, mkRes (rs0.map (·.sub (cpi [] n)))) :: l) (obLM (cpi [] n) 0 obs0 ++ m) (n + obs0.length)) :
    AL P ops cx Q (⟨some d, .call { callee := .value (.func f), args := xs.toArray, argTypes := ats }, ty, pos, af, none⟩ :: rest) l m n :=
  al_call hc ha hd fun rs all ⟨h1, h2⟩ => by subst h1 h2; exact k
end


end Go.Proofs.Ytokhfcfnhgianaa
/-
  Calls in drawn regions that write one object of the caller's (a reader), with answers known.
-/
namespace Go.Proofs.Ytokhfcfnhgianaa
open Go.RowKit
set_option linter.unusedVariables false
set_option linter.unusedSimpArgs false

/-- Arguments: the object t itself, values, slices written no more. -/
inductive ArgsT (t : Nat) (S : Nat → AV) (O : Nat → OB) : List Operand → List AR → Prop where
  | nil : ArgsT t S O [] []
  | one {x : Operand} {r : AR} {xs : List Operand} {rs : List AR} : Ag S x (.r r) → r.tags = [] → ArgsT t S O xs rs → ArgsT t S O (x :: xs) (r :: rs)
  | froz {x : Operand} {u wd : Nat} {rows : List (List CV)} {xs : List Operand} {rs : List AR} : Ag S x (.own u) → O u = .froz wd rows → ArgsT t S O xs rs → ArgsT t S O (x :: xs) (.one (.c (.sl wd rows)) :: rs)
  | rnil {x : Operand} {wd : Nat} {xs : List Operand} {rs : List AR} : Ag S x (.raw (.slice none 0 0)) → ArgsT t S O xs rs → ArgsT t S O (x :: xs) (.one (.c (.sl wd [])) :: rs)
  | tag {x : Operand} {xs : List Operand} {rs : List AR} : Ag S x (.ref t 0) → ArgsT t S O xs rs → ArgsT t S O (x :: xs) (.one (.ref 0 0) :: rs)
theorem ArgsT.ok {t : Nat} {S : Nat → AV} {O : Nat → OB} {xs : List Operand} {rs : List AR} (h : ArgsT t S O xs rs) : AgL S (argR S xs) ∧ OgL O (argO S O xs) ∧
    ∀ (S' : Nat → AV) (O' : Nat → OB), AgL S' (argR S xs) → OgL O' (argO S O xs) → Args S' O' (fun _ => t) false xs rs := by
  induction h with
  | nil => exact ⟨trivial, trivial, fun _ _ _ _ => .nil⟩
  | one h1 h2 _ ih =>
    have e : vl S _ = _ := h1
    simp only [argR, argO, List.map_cons, List.flatMap_cons, e, argO1_c h2, List.nil_append]
    exact ⟨⟨h1, ih.1⟩, ih.2.1, fun S' O' hR hO => .one hR.1 h2 (ih.2.2 S' O' hR.2 hO)⟩
  | froz h1 h2 _ ih =>
    have e : vl S _ = _ := h1
    simp only [argR, argO, List.map_cons, List.flatMap_cons, e, argO1, h2, List.cons_append, List.nil_append]
    exact ⟨⟨h1, ih.1⟩, ⟨h2, ih.2.1⟩, fun S' O' hR hO => .froz hR.1 hO.1 (ih.2.2 S' O' hR.2 hO.2)⟩
  | rnil h1 _ ih =>
    have e : vl S _ = _ := h1
    simp only [argR, argO, List.map_cons, List.flatMap_cons, e, argO1, List.nil_append]
    exact ⟨⟨h1, ih.1⟩, ih.2.1, fun S' O' hR hO => .rnil hR.1 (ih.2.2 S' O' hR.2 hO)⟩
  | tag h1 _ ih =>
    have e : vl S _ = _ := h1
    simp only [argR, argO, List.map_cons, List.flatMap_cons, e, argO1, List.nil_append]
    exact ⟨⟨h1, ih.1⟩, ih.2.1, fun S' O' hR hO => .tag hR.1 (ih.2.2 S' O' hR.2 hO)⟩
end Go.Proofs.Ytokhfcfnhgianaa
/-
  Calls that write two slices of the caller's own.
-/
namespace Go.Proofs.Ytokhfcfnhgianaa
open Go.RowKit
set_option linter.unusedVariables false
set_option linter.unusedSimpArgs false
end Go.Proofs.Ytokhfcfnhgianaa
/-
  Structs of two numbers and two slices: calls, ends; nil fields as slices of the call's own.
-/
namespace Go.Proofs.Ytokhfcfnhgianaa
open Go.RowKit
set_option linter.unusedVariables false

end Go.Proofs.Ytokhfcfnhgianaa
/-
  Cutting strings: the walks.
-/
namespace Go.Proofs.Ytokhfcfnhgianaa
open Go.RowKit
set_option linter.unusedVariables false
set_option linter.unusedSimpArgs false
attribute [local irreducible] AL AW OpX Le AD

end Go.Proofs.Ytokhfcfnhgianaa
/-
  The checks of a series: the walks.
-/
namespace Go.Proofs.Ytokhfcfnhgianaa
open Go.RowKit
set_option linter.unusedVariables false
set_option linter.unusedSimpArgs false
attribute [local irreducible] AL AW OpX Le AD

theorem c_inRange (x lo hi : Int) : Con Try.prog 17 [rI x, rI lo, rI hi] [] (fun rs all => rs = [rB (decide (lo ≤ x ∧ x ≤ hi))] ∧ all = []) := by
  refine con_of_aw (vars := [.tmp 6]) [(0, .r (rI x)), (1, .r (rI lo)), (2, .r (rI hi))] [] 0 Try.func17 (by kernel_rfl) rfl Try.ntmps17 rfl (by decide) rfl rfl rfl rfl rfl ?_; intro B M w0 ρ0 Z0
  repeat' (first | (refine is_al ?_; (first | (refine is_gd ?_; (first | refine al_on rfl rfl rfl (by assumption) ?_ | refine al_off rfl rfl rfl (by assumption) rfl ?_ | (refine al_g rfl rfl rfl rfl ?_ ?_ <;> ((intro hgd; try exact absurd hgd (by decide)); (try (have hz := hgd; simp only [decide_eq_true_eq, decide_eq_false_iff_not, Bool.not_eq_true', Bool.not_eq_false', Bool.not_true, Bool.not_false, beq_iff_eq, Int.not_le, Int.not_lt] at hz)); (try (exfalso; omega)))))) | (refine is_move ?_; refine al_v (opx_move (.raw _)) ⟨rfl, trivial⟩ trivial rfl ?_) | (refine is_bin ?_; refine al_v opx_leq ⟨rfl, rfl, trivial⟩ trivial rfl ?_) | (refine is_assign ?_; refine al_v (opx_assign (.raw _)) ⟨rfl, trivial⟩ trivial rfl ?_) | (refine is_pick ?_; (first | refine al_v (opx_pick_t (.raw _) (by assumption)) ⟨rfl, rfl, trivial⟩ trivial rfl ?_ | refine al_v (opx_pick_f (.raw _) (by assumption)) ⟨rfl, rfl, trivial⟩ trivial rfl ?_)) | refine al_nil ?_)) | (refine is_aw ?_; (first | refine aw_seq ?_ | refine aw_region ?_ | refine aw_ret ?_)))
  all_goals exact ret_raw trivial rfl ⟨(congrArg (fun b => [rB b]) (by rw [Bool.eq_iff_iff]; simp only [decide_eq_true_eq, Bool.false_eq_true, Bool.and_eq_true, Bool.or_eq_true, Bool.not_eq_true', decide_eq_false_iff_not, false_iff, true_iff, iff_false, iff_true]; omega)), rfl⟩

end Go.Proofs.Ytokhfcfnhgianaa
/-
  Slices against nil; bytes as a string; remainders and conversions of bytes.
-/
namespace Go.Proofs.Ytokhfcfnhgianaa
open Go.RowKit
set_option linter.unusedVariables false
set_option linter.unusedSimpArgs false
section
variable {P : Program}
variable {d : Nat} {x y z : Operand} {t t' ty : TypeId} {pos : String} {af : Array Edge} {gd : Option (Nat × Bool)}
/-- 'byte(n)' -/
theorem opx_byte {src dst : TypeId} [h : CvT P src dst .u8] {n : Int} {k : Nat} (hn : n = (k : Int)) (hk : k < 256) : OpX P ⟨some d, .convert src dst x, ty, pos, af, gd⟩ [(x, .i n)] [] [] [(d, .raw (.int .u8 (UInt8.ofNat k).toNat))] [] :=
  opx_conv (by
    subst hn
    have : (UInt8.ofNat k).toNat = k := by rw [UInt8.toNat_ofNat']; omega
    rw [this]
    exact IntWalk.u8_in _ (by omega))
/-- 'int(c)' of what is a byte -/
theorem opx_intOf {src dst : TypeId} [h : CvT P src dst .i64] {q : IntKind} {n : Int} (hn : 0 ≤ n ∧ n ≤ 9223372036854775807) : OpX P ⟨some d, .convert src dst x, ty, pos, af, gd⟩ [(x, .raw (.int q n))] [] [] [(d, .i n)] [] :=
  opx_conv (wrap_in ⟨by omega, hn.2⟩)
theorem byRs_cells {Z : Nat → Prop} {w : World} : ∀ {bs : List UInt8} {us : List Value}, DL Z w (byRs bs).flatten us → us = bs.map fun b => Value.int .u8 b.toNat
  | [], [], _ => rfl
  | [], _ :: _, h => h.elim
  | b :: bs, u :: us, h => by
    have h1 : DC Z w (.raw (.int .u8 b.toNat)) u := h.1
    have h2 := byRs_cells (bs := bs) (us := us) h.2
    cases h1
    rw [h2]; rfl
  | _ :: _, [], h => h.elim
theorem opx_bstr (RO : List (Nat × OB)) {src dst e wd bytes : Nat} {zs : List Value} [hT : SlT P src e wd bytes zs] [hS : StrT P dst] (he : P.underlying e = some (.int .u8)) {av : AV} {bs : List UInt8} (h : ∀ O, OgL O RO → SlV O av 1 (byRs bs)) :
    OpX P ⟨some d, .convert src dst x, ty, pos, af, gd⟩ [(x, av)] RO [] [(d, .str bs)] [] :=
  opx_val rfl fun cx S O V a w ρ Z hg hR hO => by
    obtain ⟨A, c, us, h1, h2, h3, h4, h5, h6⟩ := slv_read hg (h O hO) (hg.ag hR.1)
    obtain ⟨i, z, hu, _⟩ := sl_parts hT
    have hlen : (byRs bs).length = bs.length := byRs_len
    refine ⟨.string ⟨bs.toArray⟩, ?_, da_mk rfl, by simp [AV.tags, AR.tags, A1.tag]⟩
    rcases Nat.eq_zero_or_pos bs.length with h0 | h0
    · obtain rfl := List.eq_nil_of_length_eq_zero h0
      have hc : (convert src dst (.slice A 0 c)).run P w = .ok (.string ⟨#[]⟩) w := by
        cases A with
        | none => simp [convert, run_underlying hu, run_underlying hS.ok, run_underlying he, Conv.bytesToString]; rfl
        | some a0 => simp [convert, run_underlying hu, run_underlying hS.ok, run_underlying he, Conv.bytesToString, loadCells, loadCellsFrom]; rfl
      simp only [execOp, h1]
      rw [Sem.run_bind, show (byRs ([] : List UInt8)).length = 0 from rfl, hc]; rfl
    · obtain ⟨b, o, rfl, h7⟩ := h6 (by omega)
      have hus := byRs_cells h5
      have hB : Lib.Bytes w b o ⟨bs.toArray⟩ := fun i hi => by
        have hi' : i < bs.length := by simpa [ByteArray.size] using hi
        refine (h7 i _ (by rw [hus, List.getElem?_map, List.getElem?_eq_getElem hi']; rfl)).trans ?_
        congr 2
      have hc := Lib.run_convert_whole (P := P) w src e dst hu he hS.ok b o ⟨bs.toArray⟩ hB c
      have hsz : (⟨bs.toArray⟩ : ByteArray).size = bs.length := by simp [ByteArray.size]
      rw [hsz] at hc
      simp only [execOp, h1, hlen]
      rw [Sem.run_bind, hc]; rfl
end
section
variable {P : Program} {ops : Array Oper} {cx : Cx} {Q : APost} {rest : List Oper} {l : SL} {m : OL} {n d : Nat} {x : Operand} {ty : TypeId} {pos : String} {af : Array Edge} {T e bytes : Nat} {zs : List Value}
/-- '[]byte{c}' -/
theorem al_litB1 [hT : SlT P T e 1 bytes zs] {a : UInt8} (hx : Ag (lk .dead l) x (.raw (.int .u8 a.toNat))) (hd : Nat.blt d cx.N = true)
    (k : AL P ops cx Q rest ((d, .own n) :: l) ((n, .row 1 e (byRs [a])) :: m) (n + 1)) : AL P ops cx Q (⟨some d, .buildSlice T 1 #[(0, x)], ty, pos, af, none⟩ :: rest) l m n :=
  al_n (opx_lit1 (S := lk .dead l) (u := n) (cs := [.raw (.int .u8 a.toNat)]) (.cons hx (.nil _)) rfl rfl) ⟨hx, trivial⟩ trivial hd k
end
end Go.Proofs.Ytokhfcfnhgianaa

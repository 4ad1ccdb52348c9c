/-
  Calls in drawn regions that hand out a slice of their own; appends in drawn regions.
-/
import Derived.Test.YtllgddednlfhfaaDoorEng17
namespace Go.Proofs.YtllgddednlfhfaaDoor
open Go.RowKit
set_option linter.unusedVariables false
set_option linter.unusedSimpArgs false

/-- What a call that hands out one slice of plain cells leaves. -/
theorem Good.callr {cx : Cx} {S : Nat → AV} {O : Nat → OB} {V : Nat → Prop} {a : Act} {w w' : World} {ρ ρ' ρ0 : Nat → Value} {Z Z' Zc : Nat → Prop} {n wd : Nat} {e : TypeId} {rows : List (List CV)} {rs : List AR} {us : List Value}
    (h : Good cx S O V a w ρ Z) (hV : V n) (hl : Leave w ρ0 Zc [] w' ρ' Z' rs [.row wd e rows] us) (hfl : flatRows rows) :
    Good cx S (lkf O [(n, .row wd e rows)]) (fun s => V s ∧ s ≠ n) a w' (fun s => if s = n then ρ' 0 else ρ s) Z := by
  have hno : ∀ g, ¬ Wr [] ρ0 g := by rintro g ⟨i, h1, _⟩; simp [obAt, OB.live] at h1
  have hgr : w.grownBy w' none := ⟨hl.os, hl.tape, hl.output, hl.size, fun g hg _ => hl.old g hg (hno g)⟩
  have hob := hl.objs 0
  refine h.new hV hgr (v := ρ' 0) (ob := .row wd e rows) ?_ (fun g hg => ?_) (fun s hs => by cases hs)
  · have h1 : DO ρ' Z w' 0 (.row wd e rows) := DO.flat (ob := .row wd e rows) (show DO ρ' Z' w' 0 (.row wd e rows) from hob) hfl
    have e1 : (fun s => if s = n then ρ' 0 else ρ s) n = ρ' 0 := if_pos rfl
    show (∀ r ∈ rows, r.length = wd) ∧ _
    rw [e1]
    exact h1
  · have := (hl.out 0 g rfl hg).2
    rcases this with h2 | h2
    · exact h2
    · exact absurd h2 (hno g)
section
variable {P : Program} {R : List (Operand × AV)} {RO : OL} {f : FuncId} {xs : List Operand} {ats : Array TypeId} {args : List AR} {d n wd : Nat} {e ty : TypeId} {pos : String} {af : Array Edge} {rows : List (List CV)}
theorem entry_ro {cx : Cx} {S : Nat → AV} {O : Nat → OB} {V : Nat → Prop} {a : Act} {w : World} {ρ : Nat → Value} {Z : Nat → Prop} (hg : Good cx S O V a w ρ Z) (ha : Args S O (fun t => t) true xs args) : Entry w (fun t => ρ t) (fun g => Z g ∨ RowZ O ρ g) args [] (xs.map a.eval) := by
  refine ⟨ha.drl hg (fun _ h => .inl h) (fun _ _ h => .inr h), fun i => by simp [obAt]; trivial, fun i j g h1 => by simp [obAt, OB.live] at h1, fun i g h1 => by simp [obAt, OB.live] at h1, fun g h => ?_, hg.gl.mono (fun _ h => .inl h) (Same.refl _ _)⟩
  rcases h with h | ⟨t, wd, e, rows, h1, h2⟩
  · exact hg.zlt g h
  · exact hg.lt (by rw [h1]; rfl) h2
theorem exec_call {a : Act} (hok : fnOk P f = true) (w : World) : (execOp a.eval ⟨some d, .call { callee := .value (.func f), args := xs.toArray, argTypes := ats }, ty, pos, af, none⟩).run P w = .ok (.enter f (xs.map a.eval).toArray) w := by
  rw [execOp_call_go, run_callFunc hok]
  simp
theorem opx_callr (hc : Con P f args [] (fun rs all => rs = [.one (.own 0)] ∧ all = [.row wd e rows])) (hfl : flatRows rows) (ha : ∀ (S : Nat → AV) (O : Nat → OB) (f : Nat → Nat), AgL S R → OgL O RO → Args S O f true xs args) :
    OpX P ⟨some d, .call { callee := .value (.func f), args := xs.toArray, argTypes := ats }, ty, pos, af, none⟩ R RO [n] [(d, .own n)] [(n, .row wd e rows)] := by
  rintro cx S O V a w hR hO hV hU ⟨ρ, Z, hg⟩ K Q hK
  have hcall := hc.run w _ _ _ (entry_ro hg (ha S O (fun t => t) hR hO))
  unfold Oper.wp
  rw [exec_call hc.ok, Oper.upon_enter]
  refine hcall.mono fun e1 w' ⟨rs, all, us, ρ', Z', hpost, hlen, he, hl⟩ => ?_
  subst he
  obtain ⟨rfl, rfl⟩ := hpost
  have hG := hg.callr hV.1 hl hfl
  match us, hl.res with
  | [u], h => exact hK _ _ ⟨_, Z, (hG.put (blt_lt hU.1) (show DA _ Z w' (.own n) (mkRet [u]) from ⟨(show mkRet [u] = _ from h.1.1).trans (if_pos rfl).symm, h.1.2⟩) fun s hs => by simp [AV.tags, AR.tags, A1.tag] at hs; subst hs; exact fun hh => hh.2 rfl).weak fun t ht => ⟨ht.1, by simpa using ht.2⟩⟩
  | [], h => exact h.elim
  | _ :: _ :: _, h => exact h.2.elim
theorem opx_callrv {v : Value} (hc : Con P f args [] (fun rs all => rs = [.one (.own 0), .one (.c (.raw v))] ∧ all = [.row wd e rows])) (hfl : flatRows rows) (ha : ∀ (S : Nat → AV) (O : Nat → OB) (f : Nat → Nat), AgL S R → OgL O RO → Args S O f true xs args) :
    OpX P ⟨some d, .call { callee := .value (.func f), args := xs.toArray, argTypes := ats }, ty, pos, af, none⟩ R RO [n] [(d, .tup [.one (.own n), .one (.c (.raw v))])] [(n, .row wd e rows)] := by
  rintro cx S O V a w hR hO hV hU ⟨ρ, Z, hg⟩ K Q hK
  have hcall := hc.run w _ _ _ (entry_ro hg (ha S O (fun t => t) hR hO))
  unfold Oper.wp
  rw [exec_call hc.ok, Oper.upon_enter]
  refine hcall.mono fun e1 w' ⟨rs, all, us, ρ', Z', hpost, hlen, he, hl⟩ => ?_
  subst he
  obtain ⟨rfl, rfl⟩ := hpost
  have hG := hg.callr hV.1 hl hfl
  match us, hl.res with
  | [u, u2], h =>
    refine hK _ _ ⟨_, Z, (hG.put (blt_lt hU.1) (show DA _ Z w' (.tup [.one (.own n), .one (.c (.raw v))]) (mkRet [u, u2]) from ⟨[u, u2], rfl, ⟨(show u = _ from h.1.1).trans (if_pos rfl).symm, h.1.2⟩, D1.flat (ρ := ρ') (Z := Z') (x := .c (.raw v)) (show D1 ρ' Z' w' (.c (.raw v)) u2 from h.2.1) rfl, trivial⟩) fun s hs => ?_).weak fun t ht => ⟨ht.1, by simpa using ht.2⟩⟩
    simp [AV.tags, AR.tags, A1.tag] at hs; subst hs; exact fun hh => hh.2 rfl
  | [], h => exact h.elim
  | [_], h => exact h.2.elim
  | _ :: _ :: _ :: _, h => exact h.2.2.elim
end
section
variable {P : Program} {ol : List Oper} {cx : Cx} {Q : APost} {done : List Keys} {rest : List Oper} {l : SL} {m : OL} {n : Nat}
variable {d wd : Nat} {e ty : TypeId} {pos : String} {af : Array Edge} {f : FuncId} {xs : List Operand} {ats : Array TypeId} {args rs0 : List AR} {rows : List (List CV)}
theorem ad_callr2 (ha : ArgsX (lk .dead l) (lk .gone m) xs args) (hd : Nat.blt d cx.N = true) (hc : Con P f args [] (fun rs all => rs = [.one (.own 0)] ∧ all = [.row wd e rows])) (hfl : flatRows rows)
    (k : AD P ol cx Q (⟨rtmps (argR (lk .dead l) xs), [d], (argO (lk .dead l) (lk .gone m) xs).map (·.1), [n], [n]⟩ :: done) rest ((d, .own n) :: l) ((n, .row wd e rows) :: m) (n + 1)) :
    AD P ol cx Q done (⟨some d, .call { callee := .value (.func f), args := xs.toArray, argTypes := ats }, ty, pos, af, none⟩ :: rest) l m n := by
  obtain ⟨h1, h2, h3⟩ := ha.d.ok
  exact ad_n (opx_callr hc hfl h3) h1 h2 hd k
theorem ad_callrv2 {v : Value} (ha : ArgsX (lk .dead l) (lk .gone m) xs args) (hd : Nat.blt d cx.N = true) (hc : Con P f args [] (fun rs all => rs = [.one (.own 0), .one (.c (.raw v))] ∧ all = [.row wd e rows])) (hfl : flatRows rows)
    (k : AD P ol cx Q (⟨rtmps (argR (lk .dead l) xs), [d], (argO (lk .dead l) (lk .gone m) xs).map (·.1), [n], [n]⟩ :: done) rest ((d, .tup [.one (.own n), .one (.c (.raw v))]) :: l) ((n, .row wd e rows) :: m) (n + 1)) :
    AD P ol cx Q done (⟨some d, .call { callee := .value (.func f), args := xs.toArray, argTypes := ats }, ty, pos, af, none⟩ :: rest) l m n := by
  obtain ⟨h1, h2, h3⟩ := ha.d.ok
  exact ad_n (opx_callrv hc hfl h3) h1 h2 hd k
end
end Go.Proofs.YtllgddednlfhfaaDoor

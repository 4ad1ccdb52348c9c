/-
  Calls that read a slice of the caller's own and answer new ones; answers that are written no more.
-/
import Derived.Test.YtoalaimmgmehaaaEng24
import Derived.Test.YtoalaimmgmehaaaDat3
namespace Go.Proofs.Ytoalaimmgmehaaa
open Go.RowKit
set_option linter.unusedVariables false
set_option linter.unusedSimpArgs false
section
variable {P : Program} {ops : Array Oper} {cx : Cx} {Q : APost} {rest : List Oper} {l : SL} {m : OL} {n : Nat}
variable {d : Nat} {ty : TypeId} {pos : String} {af : Array Edge} {f : FuncId} {xs : List Operand} {ats : Array TypeId} {args : List AR}
/-- A reader call whose fresh slice is written no more. -/
theorem al_rdrF {bs : List UInt8} {p : Int} {wd : Nat} {e : TypeId} {Φ : List (List CV) → Int → Prop} (t : Nat) (hm : lk .gone m t = rdO bs p) (ht : Nat.blt t n = true) (ha : Args (lk .dead l) (lk .gone m) (cpi [t] n) false xs args) (hd : Nat.blt d cx.N = true)
    (hc : Con P f args [rdO bs p] (RdR bs wd e Φ)) (k : ∀ rows q, Φ rows q → AL P ops cx Q rest ((d, .sl wd rows) :: (d, .own n) :: l) ((n, .froz wd rows) :: (t, rdO bs q) :: (n, .row wd e rows) :: m) (n + 1)) :
    AL P ops cx Q (⟨some d, .call { callee := .value (.func f), args := xs.toArray, argTypes := ats }, ty, pos, af, none⟩ :: rest) l m n :=
  al_rdr t hm ht ha hd hc fun rows q h => by
    have htn : Nat.beq t n = false := beq_ne (by have := blt_lt ht; omega)
    refine al_le (le_freeze n (wd := wd) (e := e) (rows := rows) (by simp [lk, htn, beq_self])) ?_
    exact al_le (le_frozSl d (t := n) (wd := wd) (rows := rows) (by simp [lk, beq_self]) (by simp [lk, beq_self])) (k rows q h)
/-- A call that reads one slice of the caller's own and answers a new one. -/
theorem al_mkr {wd wd2 : Nat} {e e2 : TypeId} {rows rows2 : List (List CV)} (t : Nat) (hm : lk .gone m t = .row wd e rows) (ht : Nat.blt t n = true) (ha : Args (lk .dead l) (lk .gone m) (cpi [t] n) false xs args) (hd : Nat.blt d cx.N = true)
    (hc : Con P f args [.row wd e rows] (fun rs all => rs = [.one (.own 1)] ∧ all = [.row wd e rows, .row wd2 e2 rows2]))
    (k : AL P ops cx Q rest ((d, .own n) :: l) ((t, .row wd e rows) :: (n, .row wd2 e2 rows2) :: m) (n + 1)) :
    AL P ops cx Q (⟨some d, .call { callee := .value (.func f), args := xs.toArray, argTypes := ats }, ty, pos, af, none⟩ :: rest) l m n :=
  al_call_m [t] hc (by simp [nodupB, ht]) ⟨hm, trivial⟩ ha hd fun rs all _ ⟨h1, h2⟩ => by
    subst h1 h2
    have e1 : (n + ([OB.row wd e rows, OB.row wd2 e2 rows2].length - [OB.row wd e rows].length)) = n + 1 := rfl
    rw [e1]
    simp only [List.map_cons, List.map_nil, mkRes, obLM, AR.sub, A1.sub, cpi_one, cpi_one2, OB.sub, List.cons_append, List.nil_append]
    exact k
/-- The same, with two plain values. -/
theorem al_mkrvv {wd wd2 : Nat} {e e2 : TypeId} {rows rows2 : List (List CV)} {v1 v2 : Value} (t : Nat) (hm : lk .gone m t = .row wd e rows) (ht : Nat.blt t n = true) (ha : Args (lk .dead l) (lk .gone m) (cpi [t] n) false xs args) (hd : Nat.blt d cx.N = true)
    (hc : Con P f args [.row wd e rows] (fun rs all => rs = [.one (.own 1), .one (.c (.raw v1)), .one (.c (.raw v2))] ∧ all = [.row wd e rows, .row wd2 e2 rows2]))
    (k : AL P ops cx Q rest ((d, .tup [.one (.own n), .one (.c (.raw v1)), .one (.c (.raw v2))]) :: l) ((t, .row wd e rows) :: (n, .row wd2 e2 rows2) :: m) (n + 1)) :
    AL P ops cx Q (⟨some d, .call { callee := .value (.func f), args := xs.toArray, argTypes := ats }, ty, pos, af, none⟩ :: rest) l m n :=
  al_call_m [t] hc (by simp [nodupB, ht]) ⟨hm, trivial⟩ ha hd fun rs all _ ⟨h1, h2⟩ => by
    subst h1 h2
    have e1 : (n + ([OB.row wd e rows, OB.row wd2 e2 rows2].length - [OB.row wd e rows].length)) = n + 1 := rfl
    rw [e1]
    simp only [List.map_cons, List.map_nil, mkRes, obLM, AR.sub, A1.sub, cpi_one, cpi_one2, OB.sub, List.cons_append, List.nil_append]
    exact k
/-- A slice of the call's own that becomes an element of a literal is written no more. -/
theorem al_litFrz {T : TypeId} {dd : Option Nat} {s t wd : Nat} {e : TypeId} {rows : List (List CV)} (hx : lk .dead l s = .own t) (ho : lk .gone m t = .row wd e rows)
    (k : AL P ops cx Q (⟨dd, .buildSlice T 1 #[(0, .tmp s)], ty, pos, af, none⟩ :: rest) ((s, .sl wd rows) :: l) ((t, .froz wd rows) :: m) n) :
    AL P ops cx Q (⟨dd, .buildSlice T 1 #[(0, .tmp s)], ty, pos, af, none⟩ :: rest) l m n := by
  refine al_le (le_freeze t ho) ?_
  exact al_le (le_frozSl s (t := t) hx (by simp [lk, beq_self])) k
theorem al_frzAt (s : Nat) {t wd : Nat} {e : TypeId} {rows : List (List CV)} (hx : lk .dead l s = .own t) (ho : lk .gone m t = .row wd e rows) (k : AL P ops cx Q rest ((s, .sl wd rows) :: l) ((t, .froz wd rows) :: m) n) : AL P ops cx Q rest l m n := by
  refine al_le (le_freeze t ho) ?_
  exact al_le (le_frozSl s (t := t) hx (by simp [lk, beq_self])) k
end
section
variable {P : Program} {Post : List AR → List OB → Prop} {e : Exit} {l : SL} {m : OL} {n t t2 t3 u : Nat}
theorem retm_row_raw2 {wd : Nat} {el : TypeId} {rows : List (List CV)} {ob : OB} {v1 v2 : Value} (he : isEnd e) (h : lk .dead l t = .own u) (hr : lk .gone m u = .row wd el rows) (hu : Nat.beq 0 u = false) (ho : lk .gone m 0 = ob.sub (perm [0, u])) (h2 : lk .dead l t2 = .raw v1) (h3 : lk .dead l t3 = .raw v2)
    (ht : resTags [.one (.own 1), .one (.c (.raw v1)), .one (.c (.raw v2))] [ob, .row wd el rows] = true) (hp : Post [.one (.own 1), .one (.c (.raw v1)), .one (.c (.raw v2))] [ob, .row wd el rows]) : RetG P [.tmp t, .tmp t2, .tmp t3] 1 Post e l m n :=
  retg_mk he [_, _, _] [ob, _] [0, u] hp (by simp) (by simp [nodupB, hu]) rfl rfl ht ⟨h, h2, h3, trivial⟩ ⟨ho, hr, trivial⟩
end
end Go.Proofs.Ytoalaimmgmehaaa

/-
  Lists of texts, written out.
-/
import Derived.Test.YtllgddednlfhfaaDoorEng21
import Derived.Test.YtllgddednlfhfaaDoorDat3
namespace Go.Proofs.YtllgddednlfhfaaDoor
open Go.RowKit
set_option linter.unusedVariables false
set_option linter.unusedSimpArgs false
section
variable {P : Program} {ops : Array Oper} {cx : Cx} {Q : APost} {rest : List Oper} {l : SL} {m : OL} {n d : Nat} {t t' : TypeId} {x y : Operand} {ty : TypeId} {pos : String} {af : Array Edge}
theorem al_litS {T e bytes cnt : Nat} {zs : List Value} [hT : SlT P T e 1 bytes zs] (ns : List Str) {ps : List (Nat × Operand)} (h : P1 (lk .dead l) 0 ps (ns.map cS)) (hn : ns.length = cnt) (hb : Nat.ble cnt 16777216 = true) (hd : Nat.blt d cx.N = true)
    (k : AL P ops cx Q rest ((d, .sl 1 (stRs ns)) :: (d, .own n) :: l) ((n, .froz 1 (stRs ns)) :: (n, .row 1 e (stRs ns)) :: m) (n + 1)) :
    AL P ops cx Q (⟨some d, .buildSlice T cnt ps.toArray, ty, pos, af, none⟩ :: rest) l m n := by
  have e1 : (ns.map cS).map (fun c => [c]) = stRs ns := by simp [stRs]
  have hx := opx_lit1 (hT := hT) (d := d) (ty := ty) (pos := pos) (af := af) (gd := none) (u := n) h (by simpa using hn) hb
  rw [e1] at hx
  refine al_n hx h.ag trivial hd ?_
  refine al_le (le_freeze n (wd := 1) (e := e) (rows := stRs ns) (by simp [lk])) ?_
  exact al_le (le_frozSl d (t := n) (wd := 1) (rows := stRs ns) (by simp [lk]) (by simp [lk])) k
variable {ol : List Oper} {done : List Keys}
theorem ad_litS {T e bytes cnt : Nat} {zs : List Value} [hT : SlT P T e 1 bytes zs] (ns : List Str) {ps : List (Nat × Operand)} (h : P1 (lk .dead l) 0 ps (ns.map cS)) (hn : ns.length = cnt) (hb : Nat.ble cnt 16777216 = true) (hd : Nat.blt d cx.N = true)
    (k : AD P ol cx Q (⟨rtmps (rdParts ps ((ns.map cS).map fun c => .one (.c c))), [d], [], [n], [n]⟩ :: done) rest ((d, .sl 1 (stRs ns)) :: l) ((n, .froz 1 (stRs ns)) :: m) (n + 1)) :
    AD P ol cx Q done (⟨some d, .buildSlice T cnt ps.toArray, ty, pos, af, none⟩ :: rest) l m n := by
  have e1 : (ns.map cS).map (fun c => [c]) = stRs ns := by simp [stRs]
  have hx := opx_lit1 (hT := hT) (d := d) (ty := ty) (pos := pos) (af := af) (gd := none) (u := n) h (by simpa using hn) hb
  rw [e1] at hx
  exact ad_n hx.frz h.ag trivial hd k
end
end Go.Proofs.YtllgddednlfhfaaDoor

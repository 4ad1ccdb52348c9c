/-
  Calls in drawn regions that hand out two slices of their own, in a struct.
-/
import Derived.Test.YtnfcmbolnljchaaEng24
namespace Go.Proofs.Ytnfcmbolnljchaa
open Go.RowKit
set_option linter.unusedVariables false
set_option linter.unusedSimpArgs false

/-- An object that is there already comes under a tag that was not in use. -/
theorem Good.add {cx : Cx} {S : Nat → AV} {O : Nat → OB} {V : Nat → Prop} {a : Act} {w : World} {ρ : Nat → Value} {Z : Nat → Prop} (h : Good cx S O V a w ρ Z) {t : Nat} (hV : V t) {v : Value} {ob : OB}
    (hob : DO (fun s => if s = t then v else ρ s) Z w t ob) (hsep : ∀ s g, (O s).live = true → blk (ρ s) = some g → blk v ≠ some g) (hnz : ∀ g, blk v = some g → ¬ Z g ∧ (cx.B ≤ g ∨ cx.M g)) (htags : ∀ s ∈ ob.tags, ¬ V s) :
    Good cx S (lkf O [(t, ob)]) (fun s => V s ∧ s ≠ t) a w (fun s => if s = t then v else ρ s) Z := by
  obtain ⟨ht1, ht2, ht3⟩ := h.virgin t hV
  have hρ : ∀ s, s ≠ t → (fun s => if s = t then v else ρ s) s = ρ s := fun s e => if_neg e
  refine ⟨h.size, h.defers, fun s => DA.mono (fun _ hz => hz) (Same.refl _ _) (fun t' ht' => hρ t' (fun e => ht2 s (e ▸ ht'))) (h.slot s), fun s => ?_, fun s s' g h1 h2 h3 h4 => ?_, fun s g h1 h2 => ?_, h.zlt, fun s hs => ?_, h.os, h.tape, h.output, h.big, h.old, fun i hi => (if_neg (fun e => by have := h.vlo t hV; omega)).trans (h.pin i hi), fun s hs => h.vlo s hs.1, h.zin, h.zout⟩
  · rw [lkf_one]
    split
    · rename_i e; subst e; exact hob
    · rename_i e
      exact DO.mono (fun _ hz => hz) (Same.refl _ _) (hρ s e) (fun t' ht' => hρ t' (fun e2 => ht3 s (e2 ▸ ht'))) (fun _ _ _ => rfl) (h.obj s)
  · rw [lkf_one] at h1 h2
    by_cases e1 : s = t <;> by_cases e2 : s' = t
    · rw [e1, e2]
    · rw [if_neg e2] at h2
      rw [if_pos e1] at h3; rw [if_neg e2] at h4
      exact absurd h3 (hsep s' g h2 h4)
    · rw [if_neg e1] at h1
      rw [if_neg e1] at h3; rw [if_pos e2] at h4
      exact absurd h4 (hsep s g h1 h3)
    · rw [if_neg e1] at h1; rw [if_neg e2] at h2
      rw [if_neg e1] at h3; rw [if_neg e2] at h4
      exact h.sep s s' g h1 h2 h3 h4
  · rw [lkf_one] at h1
    by_cases e : s = t
    · rw [if_pos e] at h2
      exact hnz g h2
    · rw [if_neg e] at h1 h2
      exact h.out s g h1 h2
  · obtain ⟨hs1, hs2⟩ := hs
    obtain ⟨h1, h2, h3⟩ := h.virgin s hs1
    refine ⟨by rw [lkf_one, if_neg hs2]; exact h1, h2, fun s' => ?_⟩
    rw [lkf_one]
    split
    · exact fun hm => htags s hm hs1
    · exact h3 s'
/-- What a call that hands out two slices of plain cells leaves. -/
theorem Good.callr2 {cx : Cx} {S : Nat → AV} {O : Nat → OB} {V : Nat → Prop} {a : Act} {w w' : World} {ρ ρ' ρ0 : Nat → Value} {Z Z' Zc : Nat → Prop} {n wd wd2 : Nat} {e e2 : TypeId} {rows rows2 : List (List CV)} {rs : List AR} {us : List Value}
    (h : Good cx S O V a w ρ Z) (hV : V n) (hV2 : V (n + 1)) (hl : Leave w ρ0 Zc [] w' ρ' Z' rs [.row wd e rows, .row wd2 e2 rows2] us) (hfl : flatRows rows) (hfl2 : flatRows rows2) :
    Good cx S (lkf (lkf O [(n, .row wd e rows)]) [(n + 1, .row wd2 e2 rows2)]) (fun s => (V s ∧ s ≠ n) ∧ s ≠ n + 1) a w' (fun s => if s = n + 1 then ρ' 1 else if s = n then ρ' 0 else ρ s) Z := by
  have hno : ∀ g, ¬ Wr [] ρ0 g := by rintro g ⟨i, h1, _⟩; simp [obAt, OB.live] at h1
  have hgr : w.grownBy w' none := ⟨hl.os, hl.tape, hl.output, hl.size, fun g hg _ => hl.old g hg (hno g)⟩
  have hfr : ∀ i g, (obAt [OB.row wd e rows, .row wd2 e2 rows2] i).live = true → blk (ρ' i) = some g → w.heap.size ≤ g := fun i g h1 h2 => (hl.out i g h1 h2).2.elim id fun h3 => absurd h3 (hno g)
  have h1 := (h.grow hgr).add (t := n) (v := ρ' 0) (ob := .row wd e rows) hV (by
      have k : DO ρ' Z w' 0 (.row wd e rows) := DO.flat (ob := .row wd e rows) (show DO ρ' Z' w' 0 (.row wd e rows) from hl.objs 0) hfl
      show (∀ r ∈ rows, r.length = wd) ∧ _
      rw [show (fun s => if s = n then ρ' 0 else ρ s) n = ρ' 0 from if_pos rfl]
      exact k)
    (fun s g a1 a2 a3 => by have b1 := h.lt a1 a2; have b2 := hfr 0 g rfl a3; omega)
    (fun g a1 => ⟨fun hz => by have b1 := h.zlt g hz; have b2 := hfr 0 g rfl a1; omega, .inl (Nat.le_trans h.big (hfr 0 g rfl a1))⟩) (fun s hs => by cases hs)
  exact h1.add (t := n + 1) (v := ρ' 1) (ob := .row wd2 e2 rows2) ⟨hV2, by omega⟩ (by
      have k : DO ρ' Z w' 1 (.row wd2 e2 rows2) := DO.flat (ob := .row wd2 e2 rows2) (show DO ρ' Z' w' 1 (.row wd2 e2 rows2) from hl.objs 1) hfl2
      show (∀ r ∈ rows2, r.length = wd2) ∧ _
      rw [show (fun s => if s = n + 1 then ρ' 1 else if s = n then ρ' 0 else ρ s) (n + 1) = ρ' 1 from if_pos rfl]
      exact k)
    (fun s g a1 a2 a3 => by
      rw [lkf_one] at a1
      by_cases e0 : s = n
      · rw [if_pos e0] at a2
        have := hl.sep 0 1 g rfl rfl a2 a3
        omega
      · rw [if_neg e0] at a1 a2
        have b1 := h.lt a1 a2; have b2 := hfr 1 g rfl a3; omega)
    (fun g a1 => ⟨fun hz => by have b1 := h.zlt g hz; have b2 := hfr 1 g rfl a1; omega, .inl (Nat.le_trans h.big (hfr 1 g rfl a1))⟩) (fun s hs => by cases hs)
section
variable {P : Program} {R : List (Operand × AV)} {RO : OL} {f : FuncId} {xs : List Operand} {ats : Array TypeId} {args : List AR} {d n wd wd2 : Nat} {e e2 ty : TypeId} {pos : String} {af : Array Edge} {rows rows2 : List (List CV)} {v1 v2 v : Value}
theorem opx_call4b (hc : Con P f args [] (fun rs all => rs = [.agg [.c (.raw v1), .c (.raw v2), .own 0, .own 1], .one (.c (.raw v))] ∧ all = [.row wd e rows, .row wd2 e2 rows2])) (hfl : flatRows rows) (hfl2 : flatRows rows2) (ha : ∀ (S : Nat → AV) (O : Nat → OB) (f : Nat → Nat), AgL S R → OgL O RO → Args S O f true xs args) :
    OpX P ⟨some d, .call { callee := .value (.func f), args := xs.toArray, argTypes := ats }, ty, pos, af, none⟩ R RO [n, n + 1] [(d, .tup [.agg [.c (.raw v1), .c (.raw v2), .own n, .own (n + 1)], .one (.c (.raw v))])] [(n + 1, .row wd2 e2 rows2), (n, .row wd e rows)] := by
  rintro cx S O V a w hR hO hV hU ⟨ρ, Z, hg⟩ K Q hK
  have hcall := hc.run w _ _ _ (entry_ro hg (ha S O (fun t => t) hR hO))
  unfold Oper.wp
  rw [exec_call hc.ok, Oper.upon_enter]
  refine hcall.mono fun e1 w' ⟨rs, all, us, ρ', Z', hpost, hlen, he, hl⟩ => ?_
  subst he
  obtain ⟨rfl, rfl⟩ := hpost
  have hG := hg.callr2 hV.1 hV.2.1 hl hfl hfl2
  have e0 : lkf (lkf O [(n, OB.row wd e rows)]) [(n + 1, OB.row wd2 e2 rows2)] = lkf O [(n + 1, OB.row wd2 e2 rows2), (n, OB.row wd e rows)] := by
    funext s; rw [lkf_one, lkf_one, lkf_two]
  rw [e0] at hG
  match us, hl.res with
  | [u, u2], h =>
    obtain ⟨cs, hcs, hd1⟩ := h.1
    match cs, hd1 with
    | [c1, c2, c3, c4], hd1 =>
      refine hK _ _ ⟨_, Z, (hG.put (blt_lt hU.1) (show DA _ Z w' (.tup [.agg [.c (.raw v1), .c (.raw v2), .own n, .own (n + 1)], .one (.c (.raw v))]) (mkRet [u, u2]) from ⟨[u, u2], rfl, ⟨[c1, c2, c3, c4], hcs, ?_, ?_, ?_, ?_, trivial⟩, D1.flat (ρ := ρ') (Z := Z') (x := .c (.raw v)) (show D1 ρ' Z' w' (.c (.raw v)) u2 from h.2.1) rfl, trivial⟩) fun s hs => ?_).weak fun t ht => ⟨⟨ht.1, by have := ht.2; simp at this; exact this.1⟩, by have := ht.2; simp at this; exact this.2⟩⟩
      · exact D1.flat (ρ := ρ') (Z := Z') (x := .c (.raw v1)) (show D1 ρ' Z' w' (.c (.raw v1)) c1 from hd1.1) rfl
      · exact D1.flat (ρ := ρ') (Z := Z') (x := .c (.raw v2)) (show D1 ρ' Z' w' (.c (.raw v2)) c2 from hd1.2.1) rfl
      · have k : c3 = ρ' 0 ∧ c3.oneCell' = true := hd1.2.2.1
        exact ⟨k.1.trans (by simp), k.2⟩
      · have k : c4 = ρ' 1 ∧ c4.oneCell' = true := hd1.2.2.2.1
        exact ⟨k.1.trans (by simp), k.2⟩
      · simp [AV.tags, AR.tags, A1.tag] at hs
        rcases hs with rfl | rfl
        · exact fun hh => hh.1.2 rfl
        · exact fun hh => hh.2 rfl
    | [], hd1 => exact hd1.elim
    | [_], hd1 => exact hd1.2.elim
    | [_, _], hd1 => exact hd1.2.2.elim
    | [_, _, _], hd1 => exact hd1.2.2.2.elim
    | _ :: _ :: _ :: _ :: _ :: _, hd1 => exact hd1.2.2.2.2.elim
  | [], h => exact h.elim
  | [_], h => exact h.2.elim
  | _ :: _ :: _ :: _, h => exact h.2.2.elim
end
section
variable {P : Program} {ol : List Oper} {cx : Cx} {Q : APost} {done : List Keys} {rest : List Oper} {l : SL} {m : OL} {n : Nat}
variable {d wd wd2 : Nat} {e e2 ty : TypeId} {pos : String} {af : Array Edge} {f : FuncId} {xs : List Operand} {ats : Array TypeId} {args : List AR} {rows rows2 : List (List CV)} {v1 v2 v : Value}
theorem ad_call4b (ha : ArgsX (lk .dead l) (lk .gone m) xs args) (hd : Nat.blt d cx.N = true)
    (hc : Con P f args [] (fun rs all => rs = [.agg [.c (.raw v1), .c (.raw v2), .own 0, .own 1], .one (.c (.raw v))] ∧ all = [.row wd e rows, .row wd2 e2 rows2])) (hfl : flatRows rows) (hfl2 : flatRows rows2)
    (k : AD P ol cx Q (⟨rtmps (argR (lk .dead l) xs), [d], (argO (lk .dead l) (lk .gone m) xs).map (·.1), [n + 1, n], [n, n + 1]⟩ :: done) rest ((d, .tup [.agg [.c (.raw v1), .c (.raw v2), .own n, .own (n + 1)], .one (.c (.raw v))]) :: l) ((n + 1, .row wd2 e2 rows2) :: (n, .row wd e rows) :: m) (n + 2)) :
    AD P ol cx Q done (⟨some d, .call { callee := .value (.func f), args := xs.toArray, argTypes := ats }, ty, pos, af, none⟩ :: rest) l m n := by
  obtain ⟨h1, h2, h3⟩ := ha.d.ok
  exact ad_ent (n' := n + 2) (entOK_of (opx_call4b hc hfl hfl2 h3)) h1 h2 (by simp) (by omega) ⟨hd, trivial⟩ k
end
end Go.Proofs.Ytnfcmbolnljchaa

/-
  Structs of two numbers and two slices: calls, ends; nil fields as slices of the call's own.
-/
import Derived.Test.YtllgddednlfhfaaDoorEng22
import Derived.Test.YtllgddednlfhfaaDoorDat2
namespace Go.Proofs.YtllgddednlfhfaaDoor
open Go.RowKit
set_option linter.unusedVariables false
section
variable {P : Program} {ops : Array Oper} {cx : Cx} {Q : APost} {rest : List Oper} {l : SL} {m : OL} {n : Nat}
variable {d : Nat} {ty : TypeId} {pos : String} {af : Array Edge} {f : FuncId} {xs : List Operand} {ats : Array TypeId} {args : List AR}
variable {wd wd2 : Nat} {e e2 : TypeId} {rows rows2 : List (List CV)} {v1 v2 v : Value}
theorem al_call4 (ha : Args (lk .dead l) (lk .gone m) (cpi [] n) false xs args) (hd : Nat.blt d cx.N = true)
    (hc : Con P f args [] (fun rs all => rs = [.agg [.c (.raw v1), .c (.raw v2), .own 0, .own 1]] ∧ all = [.row wd e rows, .row wd2 e2 rows2]))
    (k : AL P ops cx Q rest ((d, .agg [.c (.raw v1), .c (.raw v2), .own n, .own (n + 1)]) :: l) ((n, .row wd e rows) :: (n + 1, .row wd2 e2 rows2) :: m) (n + 2)) :
    AL P ops cx Q (⟨some d, .call { callee := .value (.func f), args := xs.toArray, argTypes := ats }, ty, pos, af, none⟩ :: rest) l m n :=
  al_callG ha hd hc k
theorem al_call4b_ro (ha : Args (lk .dead l) (lk .gone m) (cpi [] n) true xs args) (hd : Nat.blt d cx.N = true)
    (hc : Con P f args [] (fun rs all => rs = [.agg [.c (.raw v1), .c (.raw v2), .own 0, .own 1], .one (.c (.raw v))] ∧ all = [.row wd e rows, .row wd2 e2 rows2])) (hfl : flatRows rows) (hfl2 : flatRows rows2)
    (k : AL P ops cx Q rest ((d, .tup [.agg [.c (.raw v1), .c (.raw v2), .own n, .own (n + 1)], .one (.c (.raw v))]) :: l) ((n, .row wd e rows) :: (n + 1, .row wd2 e2 rows2) :: m) (n + 2)) :
    AL P ops cx Q (⟨some d, .call { callee := .value (.func f), args := xs.toArray, argTypes := ats }, ty, pos, af, none⟩ :: rest) l m n :=
  al_call_ro hc (fun rs all ⟨h1, h2⟩ => by subst h1 h2; exact ⟨rfl, fun o ho => by simp at ho; rcases ho with rfl | rfl; exact hfl; exact hfl2⟩) ha hd fun rs all ⟨h1, h2⟩ => by
    subst h1 h2
    exact k
end
section
variable {cx : Cx} {l : SL} {m : OL} {n : Nat}
/-- A field of a box that is nil holds an empty slice of the call's own. -/
theorem le_boxOwn (u wd : Nat) (el : TypeId) {e : TypeId} {xs ys : List A1} (h : lk .gone m u = .box e (xs ++ .c (.raw (.slice none 0 0)) :: ys)) :
    Le cx l m n l ((u, .box e (xs ++ .own n :: ys)) :: (n, .row wd el []) :: m) (n + 1) := by
  rintro a w ⟨ρ, Z, hg⟩
  have h1 := hg.ownNil (n := n) (wd := wd) (e := el) (Nat.le_refl n)
  have hun : u ≠ n := fun e0 => by
    have := (hg.virgin n (Nat.le_refl n)).1
    rw [← e0, h] at this; cases this
  have hO : lkf (lk .gone m) [(n, .row wd el [])] u = .box e (xs ++ .c (.raw (.slice none 0 0)) :: ys) := by rw [lkf_one, if_neg hun, h]
  have ho := h1.obj u
  rw [hO] at ho
  obtain ⟨g, us, g1, g2, g3⟩ := ho
  have key : ∀ {xs : List A1} {us : List Value}, D1L (fun s => if s = n then Value.slice none 0 0 else ρ s) Z w (xs ++ .c (.raw (.slice none 0 0)) :: ys) us → D1L (fun s => if s = n then Value.slice none 0 0 else ρ s) Z w (xs ++ .own n :: ys) us := by
    intro xs
    induction xs with
    | nil =>
      intro us hd
      match us, hd with
      | x :: us, hd =>
        refine ⟨?_, hd.2⟩
        have hx : x = .slice none 0 0 := by
          have h0 : DC Z w (.raw (.slice none 0 0)) x := hd.1
          cases h0; rfl
        subst hx
        exact ⟨by simp, rfl⟩
    | cons y ys ih =>
      intro us hd
      match us, hd with
      | x :: us, hd => exact ⟨hd.1, ih hd.2⟩
  have htag : ∀ s ∈ (OB.box e (xs ++ .own n :: ys)).tags, ¬ (n ≤ s ∧ s ≠ n) := fun s hs hv => by
    have hold := (h1.virgin s hv).2.2 u
    rw [hO] at hold
    apply hold
    simp only [OB.tags, List.flatMap_append, List.flatMap_cons, List.mem_append] at hs ⊢
    rcases hs with hs | hs | hs
    · exact .inl hs
    · simp [A1.tag] at hs; exact absurd hs hv.2
    · exact .inr (.inr hs)
  have k := h1.set (t := u) (w' := w) (by rw [hO]; rfl) (World.grownBy.refl _ _) (ob := .box e (xs ++ .own n :: ys)) ⟨g, us, g1, g2, key g3⟩ htag
  refine ⟨fun s => if s = n then .slice none 0 0 else ρ s, Z, ?_⟩
  rw [show lk OB.gone ((u, .box e (xs ++ .own n :: ys)) :: (n, .row wd el []) :: m) = lkf (lkf (lk .gone m) [(n, .row wd el [])]) [(u, .box e (xs ++ .own n :: ys))] from by rw [lk_cons, lk_cons]]
  exact k.weak fun t ht => ⟨by omega, by omega⟩
end
section
variable {P : Program} {Post : List AR → List OB → Prop} {e : Exit} {l : SL} {m : OL} {n t t2 t3 u u1 u2 : Nat}
/-- a struct of two plain cells and two slices -/
theorem ret_cell4 {wd wd2 : Nat} {el el2 el3 ty : TypeId} {rows rows2 : List (List CV)} {c1 c2 : Value} (he : isEnd e) (h : lk .dead l t = .ref u 0) (hb : lk .gone m u = .box el [.c (.raw c1), .c (.raw c2), .own u1, .own u2]) (hs : strTy P ty = some 4)
    (h1 : lk .gone m u1 = .row wd el2 rows) (h2 : lk .gone m u2 = .row wd2 el3 rows2) (hne : Nat.beq u1 u2 = false)
    (hp : Post [.agg [.c (.raw c1), .c (.raw c2), .own 0, .own 1]] [.row wd el2 rows, .row wd2 el3 rows2]) : RetG P [.cell t ty] 0 Post e l m n :=
  retg_mk he [.agg [.c (.raw c1), .c (.raw c2), .own 0, .own 1]] [.row wd el2 rows, .row wd2 el3 rows2] [u1, u2] hp (Nat.zero_le _) (by simp [nodupB, hne]) rfl rfl rfl ⟨⟨u, el, _, h, hb, .inl ⟨hs, rfl⟩⟩, trivial⟩ ⟨h1, h2, trivial⟩
theorem ret_cell4b {wd wd2 : Nat} {el el2 el3 ty : TypeId} {rows rows2 : List (List CV)} {c1 c2 v : Value} (he : isEnd e) (h : lk .dead l t = .ref u 0) (hb : lk .gone m u = .box el [.c (.raw c1), .c (.raw c2), .own u1, .own u2]) (hs : strTy P ty = some 4)
    (h1 : lk .gone m u1 = .row wd el2 rows) (h2 : lk .gone m u2 = .row wd2 el3 rows2) (hne : Nat.beq u1 u2 = false) (h3 : lk .dead l t2 = .raw v)
    (hp : Post [.agg [.c (.raw c1), .c (.raw c2), .own 0, .own 1], .one (.c (.raw v))] [.row wd el2 rows, .row wd2 el3 rows2]) : RetG P [.cell t ty, .tmp t2] 0 Post e l m n :=
  retg_mk he [.agg [.c (.raw c1), .c (.raw c2), .own 0, .own 1], .one (.c (.raw v))] [.row wd el2 rows, .row wd2 el3 rows2] [u1, u2] hp (Nat.zero_le _) (by simp [nodupB, hne]) rfl rfl rfl ⟨⟨u, el, _, h, hb, .inl ⟨hs, rfl⟩⟩, h3, trivial⟩ ⟨h1, h2, trivial⟩
/-- a slice written no more, a struct of values, a value -/
theorem ret_slcell_raw {el ty : TypeId} {cells : List A1} {c : CV} {v : Value} (he : isEnd e) (h0 : lk .dead l t = .c c) (h : lk .dead l t2 = .ref u 0) (hb : lk .gone m u = .box el cells) (hs : strTy P ty = some cells.length) (hsub : AR.sub (perm []) (.agg cells) = .agg cells) (h2 : lk .dead l t3 = .raw v)
    (ht : resTags [.one (.c c), .agg cells, .one (.c (.raw v))] [] = true) (hp : Post [.one (.c c), .agg cells, .one (.c (.raw v))] []) : RetG P [.tmp t, .cell t2 ty, .tmp t3] 0 Post e l m n :=
  retg_mk he [.one (.c c), .agg cells, .one (.c (.raw v))] [] [] hp (Nat.zero_le _) rfl rfl rfl ht ⟨h0, ⟨u, el, cells, h, hb, .inl ⟨hs, hsub⟩⟩, h2, trivial⟩ trivial
end

section
variable {P : Program} {d : Nat} {t ty : TypeId} {pos : String} {af : Array Edge} {gd : Option (Nat × Bool)}
theorem opx_build0 {pl : List (Nat × Nat)} {zs : List Value} [h : BldT P t pl zs] : OpX P ⟨some d, .build t #[], ty, pos, af, gd⟩ [] [] [] [(d, .agg (zs.map fun v => .c (.raw v)))] [] :=
  opx_build (ps := []) (rs := []) rfl rfl
end
section
variable {P : Program} {ol : List Oper} {cx : Cx} {Q : APost} {done : List Keys} {rest : List Oper} {l : SL} {m : OL} {n : Nat}
variable {d u : Nat} {T e ty : TypeId} {bytes : Nat} {zs : List Value} {x y : Operand} {pos : String} {af : Array Edge}
theorem ad_appP [hT : SlT P T e 2 bytes zs] {xs ys : List (Int × Int)} (hx : Ag (lk .dead l) x (.sl 2 (ptRs ys))) (hy : Ag (lk .dead l) y (.own u)) (ho : lk .gone m u = .row 2 e (ptRs xs))
    (hb : Nat.ble bytes 1000 = true) (hd : Nat.blt d cx.N = true) (hl : xs.length + ys.length ≤ 1000000000)
    (k : AD P ol cx Q (⟨rtmps [(y, .own u), (x, .sl 2 (ptRs ys))], [d], [u], [n, u], [n]⟩ :: done) rest ((d, .own n) :: l) ((n, .row 2 e (ptRs (xs ++ ys))) :: (u, .gone) :: m) (n + 1)) :
    AD P ol cx Q done (⟨some d, .call { callee := .builtin .append, args := #[y, x], argTypes := #[T, T] }, ty, pos, af, none⟩ :: rest) l m n :=
  ad_app (av := .sl 2 (ptRs ys)) (news := ptRs ys) [] (rows := ptRs xs) (fun O _ => ⟨rfl, rfl⟩) ptRs_cat hx hy ho trivial hb hd (by rw [ptRs_len, ptRs_len]; exact hl) k
end
end Go.Proofs.YtllgddednlfhfaaDoor

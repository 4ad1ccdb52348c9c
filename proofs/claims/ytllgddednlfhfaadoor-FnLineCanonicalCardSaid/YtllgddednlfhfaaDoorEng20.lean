/-
  Fields of struct values; boxes whose fields hold slices; calls that hand out several objects; appends in drawn regions.
-/
import Derived.Test.YtllgddednlfhfaaDoorEng18
import Derived.Test.YtllgddednlfhfaaDoorDat3
namespace Go.Proofs.YtllgddednlfhfaaDoor
open Go.RowKit
set_option linter.unusedVariables false
set_option linter.unusedSimpArgs false

/-- A field of one cell: where it lies. -/
def fld1Ty (P : Program) (t : TypeId) (k : Nat) : Option Nat :=
  match P.underlying t with
  | some (.struct fs) => (fs[k]?).bind fun f => if oneTy P f.type then some f.offset else none
  | _ => none
theorem run_field {P : Program} {w : World} {t : TypeId} {k off : Nat} {cs : Array Value} {v : Value} (h : fld1Ty P t k = some off) (hv : cs[off]? = some v) : (Instr.field t (.agg cs) k).run P w = .ok v w := by
  unfold fld1Ty at h
  cases hu : P.underlying t with
  | none => rw [hu] at h; cases h
  | some d =>
    rw [hu] at h
    cases d <;> first | (cases h; done) | skip
    rename_i fs
    dsimp only at h
    cases hf : fs[k]? with
    | none => rw [hf] at h; cases h
    | some f =>
      rw [hf] at h
      by_cases ho : oneTy P f.type = true
      · simp [ho] at h
        subst h
        simp [Instr.field, run_underlying hu, hf, part, asAgg, run_isAgg_one ⟨ho⟩, hv]
      · simp [ho] at h
section
variable {P : Program} {d : Nat} {t ty : TypeId} {x : Operand} {pos : String} {af : Array Edge} {gd : Option (Nat × Bool)}
theorem opx_field {cells : List A1} {c : A1} {k off : Nat} (h : fld1Ty P t k = some off) (hc : cells[off]? = some c) :
    OpX P ⟨some d, .field t x k, ty, pos, af, gd⟩ [(x, .agg cells)] [] [] [(d, .r (.one c))] [] :=
  opx_val rfl fun cx S O V a w ρ Z hg hR hO => by
    obtain ⟨us, h1, h2⟩ := hg.ag hR.1
    obtain ⟨v, h6, h7⟩ := d1l_at h2 hc
    refine ⟨v, by simp only [execOp, h1]; rw [Sem.run_bind, run_field h (v := v) (by simpa using h6)]; rfl, h7, fun s hs hv => ?_⟩
    refine hg.agv hR.1 s ?_ hv
    simp only [AV.tags, AR.tags, List.mem_flatMap] at hs ⊢
    exact ⟨c, List.mem_of_getElem? hc, by simpa using hs⟩
end

/-! ### boxes whose fields hold slices -/
def BoxC (O : Nat → OB) (x y : A1) : Prop := x = y ∨ (∃ t wd rows, x = .own t ∧ O t = .froz wd rows ∧ y = .c (.sl wd rows)) ∨ ∃ wd, x = .c (.raw (.slice none 0 0)) ∧ y = .c (.sl wd [])
def BoxCL (O : Nat → OB) : List A1 → List A1 → Prop
  | [], [] => True
  | x :: xs, y :: ys => BoxC O x y ∧ BoxCL O xs ys
  | _, _ => False
theorem BoxC.same {O : Nat → OB} {x : A1} : BoxC O x x := .inl rfl
theorem BoxC.froz {O : Nat → OB} {t wd : Nat} {rows : List (List CV)} (h : O t = .froz wd rows) : BoxC O (.own t) (.c (.sl wd rows)) := .inr (.inl ⟨t, wd, rows, rfl, h, rfl⟩)
theorem BoxC.nil {O : Nat → OB} {wd : Nat} : BoxC O (.c (.raw (.slice none 0 0))) (.c (.sl wd [])) := .inr (.inr ⟨wd, rfl, rfl⟩)
theorem BoxCL.nil {O : Nat → OB} : BoxCL O [] [] := trivial
theorem BoxCL.cons {O : Nat → OB} {x y : A1} {xs ys : List A1} (h : BoxC O x y) (k : BoxCL O xs ys) : BoxCL O (x :: xs) (y :: ys) := ⟨h, k⟩
theorem BoxCL.d1l {ρ : Nat → Value} {Z : Nat → Prop} {w : World} {O : Nat → OB} (hg : ∀ t, DO ρ Z w t (O t)) : ∀ {xs ys : List A1} {us : List Value}, BoxCL O xs ys → D1L ρ Z w xs us → D1L ρ Z w ys us
  | [], [], _, _, h => h
  | x :: xs, y :: ys, u :: us, h, hd => by
    refine ⟨?_, BoxCL.d1l hg h.2 hd.2⟩
    rcases h.1 with e | ⟨t, wd, rows, e1, e2, e3⟩ | ⟨wd, e1, e2⟩
    · subst e; exact hd.1
    · subst e1 e3
      have h1 := hg t
      rw [e2] at h1
      have h2 : u = ρ t := hd.1.1
      rw [h2]; exact h1
    · subst e1 e2
      have h1 : DC Z w (.raw (.slice none 0 0)) u := hd.1
      cases h1
      exact DC.nil wd none 0 (by simp)
  | _ :: _, _ :: _, [], _, hd => hd.elim
  | [], _ :: _, _, h, _ => h.elim
  | _ :: _, [], _, h, _ => h.elim
theorem BoxCL.tags {O : Nat → OB} {s : Nat} : ∀ {xs ys : List A1}, BoxCL O xs ys → s ∈ ys.flatMap (fun x => x.tag.toList) → s ∈ xs.flatMap (fun x => x.tag.toList)
  | [], [], _, h => h
  | x :: xs, y :: ys, h, hs => by
    rw [List.flatMap_cons, List.mem_append] at hs ⊢
    rcases hs with hs | hs
    · rcases h.1 with e | ⟨t, wd, rows, e1, e2, e3⟩ | ⟨wd, e1, e2⟩
      · subst e; exact .inl hs
      · subst e3; simp [A1.tag] at hs
      · subst e2; simp [A1.tag] at hs
    · exact .inr (BoxCL.tags h.2 hs)
  | [], _ :: _, h, _ => h.elim
  | _ :: _, [], h, _ => h.elim
section
variable {cx : Cx} {l : SL} {m : OL} {n : Nat}
theorem le_boxC (u : Nat) {e : TypeId} {cells cells' : List A1} (h : lk .gone m u = .box e cells) (hc : BoxCL (lk .gone m) cells cells') : Le cx l m n l ((u, .box e cells') :: m) n := by
  rintro a w ⟨ρ, Z, hg⟩
  refine ⟨ρ, Z, ?_⟩
  have ho := hg.obj u
  rw [h] at ho
  obtain ⟨g, us, h1, h2, h3⟩ := ho
  have k := hg.set (t := u) (w' := w) (by rw [h]; rfl) (World.grownBy.refl _ _) (ob := .box e cells') ⟨g, us, h1, h2, hc.d1l hg.obj h3⟩ fun s hs hv => by
    refine (hg.virgin s hv).2.2 u ?_
    rw [h]
    exact hc.tags hs
  rw [show lk OB.gone ((u, .box e cells') :: m) = lkf (lk .gone m) [(u, .box e cells')] from lk_cons _ _ _ _]
  exact k
end

/-! ### calls -/
section
variable {P : Program} {ops : Array Oper} {cx : Cx} {Q : APost} {rest : List Oper} {l : SL} {m : OL} {n : Nat}
variable {d : Nat} {ty : TypeId} {pos : String} {af : Array Edge} {f : FuncId} {xs : List Operand} {ats : Array TypeId} {args : List AR}
/-- results and new objects, both known -/
theorem al_callG {rs0 : List AR} {obs0 : List OB} (ha : Args (lk .dead l) (lk .gone m) (cpi [] n) false xs args) (hd : Nat.blt d cx.N = true) (hc : Con P f args [] (fun rs all => rs = rs0 ∧ all = obs0))
    (k : AL P ops cx Q rest ((d, mkRes (rs0.map (·.sub (cpi [] n)))) :: l) (obLM (cpi [] n) 0 obs0 ++ m) (n + obs0.length)) :
    AL P ops cx Q (⟨some d, .call { callee := .value (.func f), args := xs.toArray, argTypes := ats }, ty, pos, af, none⟩ :: rest) l m n :=
  al_call hc ha hd fun rs all ⟨h1, h2⟩ => by subst h1 h2; exact k
/-- a struct of a slice, a plain cell and a slice -/
theorem al_call3 {wd wd2 : Nat} {e e2 : TypeId} {rows rows2 : List (List CV)} {c : CV} (ha : Args (lk .dead l) (lk .gone m) (cpi [] n) false xs args) (hd : Nat.blt d cx.N = true)
    (hc : Con P f args [] (fun rs all => rs = [.agg [.own 0, .c c, .own 1]] ∧ all = [.row wd e rows, .row wd2 e2 rows2]))
    (k : AL P ops cx Q rest ((d, .agg [.own n, .c c, .own (n + 1)]) :: l) ((n, .row wd e rows) :: (n + 1, .row wd2 e2 rows2) :: m) (n + 2)) :
    AL P ops cx Q (⟨some d, .call { callee := .value (.func f), args := xs.toArray, argTypes := ats }, ty, pos, af, none⟩ :: rest) l m n :=
  al_callG ha hd hc k
end

/-! ### appends in drawn regions -/
section
variable {P : Program} {ol : List Oper} {cx : Cx} {Q : APost} {done : List Keys} {rest : List Oper} {l : SL} {m : OL} {n : Nat}
variable {d u : Nat} {T e ty : TypeId} {bytes : Nat} {zs : List Value} {x y : Operand} {pos : String} {af : Array Edge}
theorem ad_app {wd : Nat} [hT : SlT P T e wd bytes zs] {rows news rows' : List (List CV)} {av : AV} (RO : OL) (hs : ∀ O, OgL O RO → SlV O av wd news) (he : rows ++ news = rows') (hx : Ag (lk .dead l) x av) (hy : Ag (lk .dead l) y (.own u)) (ho : lk .gone m u = .row wd e rows) (hr : OgL (lk .gone m) RO)
    (hb : Nat.ble bytes 1000 = true) (hd : Nat.blt d cx.N = true) (hl : rows.length + news.length ≤ 1000000000)
    (k : AD P ol cx Q (⟨rtmps [(y, .own u), (x, av)], [d], u :: RO.map (·.1), [n, u], [n]⟩ :: done) rest ((d, .own n) :: l) ((n, .row wd e rows') :: (u, .gone) :: m) (n + 1)) :
    AD P ol cx Q done (⟨some d, .call { callee := .builtin .append, args := #[y, x], argTypes := #[T, T] }, ty, pos, af, none⟩ :: rest) l m n := by
  subst he
  have hbytes : (rows.length + news.length) * bytes ≤ 140737488355328 := Nat.le_trans (Nat.mul_le_mul_left _ (Nat.le_of_ble_eq_true hb)) (by omega)
  exact ad_n (opx_append (hT := hT) (u := u) (n := n) RO (rows := rows) (news := news) (av := av) hs (by simp [maxLen]; omega) hbytes) ⟨hy, hx, trivial⟩ ⟨ho, hr⟩ hd k
theorem ad_appv {wd : Nat} [hT : SlT P T e wd bytes zs] {news : List (List CV)} (hx : Ag (lk .dead l) x (.sl wd news)) (hy : Ag (lk .dead l) y (.own u)) (ho : lk .gone m u = .row wd e [])
    (hb : Nat.ble bytes 1000 = true) (hd : Nat.blt d cx.N = true) (hl : news.length ≤ 1000000000)
    (k : AD P ol cx Q (⟨rtmps [(y, .own u), (x, .sl wd news)], [d], [u], [n, u], [n]⟩ :: done) rest ((d, .own n) :: l) ((n, .row wd e news) :: (u, .gone) :: m) (n + 1)) :
    AD P ol cx Q done (⟨some d, .call { callee := .builtin .append, args := #[y, x], argTypes := #[T, T] }, ty, pos, af, none⟩ :: rest) l m n :=
  ad_app (av := .sl wd news) (news := news) [] (rows := []) (fun O _ => ⟨rfl, rfl⟩) rfl hx hy ho trivial hb hd (by simpa using hl) k
end

/-! ### ends -/
section
variable {cx : Cx} {l l2 l3 : SL} {m m2 m3 : OL} {n n2 n3 : Nat}
theorem le_tr (h1 : Le cx l m n l2 m2 n2) (h2 : Le cx l2 m2 n2 l3 m3 n3) : Le cx l m n l3 m3 n3 := fun a w h => h2 a w (h1 a w h)
end
section
variable {P : Program} {Post : List AR → List OB → Prop} {e : Exit} {l : SL} {m : OL} {n t t2 u u1 u2 : Nat}
/-- a struct of a slice, a plain cell and a slice -/
theorem ret_cell3 {wd wd2 : Nat} {el el2 el3 ty : TypeId} {rows rows2 : List (List CV)} {c : CV} (he : isEnd e) (h : lk .dead l t = .ref u 0) (hb : lk .gone m u = .box el [.own u1, .c c, .own u2]) (hs : strTy P ty = some 3)
    (h1 : lk .gone m u1 = .row wd el2 rows) (h2 : lk .gone m u2 = .row wd2 el3 rows2) (hne : Nat.beq u1 u2 = false)
    (hp : Post [.agg [.own 0, .c c, .own 1]] [.row wd el2 rows, .row wd2 el3 rows2]) : RetG P [.cell t ty] 0 Post e l m n :=
  retg_mk he [.agg [.own 0, .c c, .own 1]] [.row wd el2 rows, .row wd2 el3 rows2] [u1, u2] hp (Nat.zero_le _) (by simp [nodupB, hne]) rfl rfl rfl ⟨⟨u, el, _, h, hb, .inl ⟨hs, rfl⟩⟩, trivial⟩ ⟨h1, h2, trivial⟩
/-- a struct of values and a value -/
theorem ret_cell_raw {el ty : TypeId} {cells : List A1} {v : Value} (he : isEnd e) (h : lk .dead l t = .ref u 0) (hb : lk .gone m u = .box el cells) (hs : strTy P ty = some cells.length) (hsub : AR.sub (perm []) (.agg cells) = .agg cells) (h2 : lk .dead l t2 = .raw v)
    (ht : resTags [.agg cells, .one (.c (.raw v))] [] = true) (hp : Post [.agg cells, .one (.c (.raw v))] []) : RetG P [.cell t ty, .tmp t2] 0 Post e l m n :=
  retg_mk he [.agg cells, .one (.c (.raw v))] [] [] hp (Nat.zero_le _) rfl rfl rfl ht ⟨⟨u, el, cells, h, hb, .inl ⟨hs, hsub⟩⟩, h2, trivial⟩ trivial
end
end Go.Proofs.YtllgddednlfhfaaDoor

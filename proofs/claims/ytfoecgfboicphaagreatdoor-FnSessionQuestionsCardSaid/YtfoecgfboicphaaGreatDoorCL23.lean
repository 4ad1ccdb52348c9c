/- Texts: Eng38 W114 -/
import Derived.Test.YtfoecgfboicphaaGreatDoorCL22
import Derived.Test.YtfoecgfboicphaaGreatDoorCL9
import Derived.Test.YtfoecgfboicphaaGreatDoorCL17
/-
  Objects under other names; maps written out; calls that are handed a box and a slice.
-/
namespace Go.Proofs.YtfoecgfboicphaaGreatDoor
open Go.RowKit
set_option linter.unusedVariables false
set_option linter.unusedSimpArgs false
section
variable {P : Program} {R : List (Operand × AV)} {RO UO : OL} {NT : List Nat} {U : SL}
theorem OpX.congr {o o' : Oper} (h : OpX P o R RO NT U UO) (he : ∀ a : Act, execOp a.eval o' = execOp a.eval o) (hd : o'.dst = o.dst) : OpX P o' R RO NT U UO := by
  intro cx S O V a w hR hO hV hU hI K Q hK
  have k := h cx S O V a w hR hO hV hU hI K Q hK
  unfold Oper.wp at k ⊢
  rw [he]
  unfold Oper.upon at k ⊢
  rw [hd]
  exact k
variable {d u : Nat} {x y z : Operand} {ty T kt et : TypeId} {pos : String} {af : Array Edge} {gd : Option (Nat × Bool)}
theorem opx_insF [hT : MfT P T kt et] {ks ks' : List Str} {fs fs' : List A1} {s : Str} {f : A1} (hl : fs.length = ks.length) (hn : mpI ks s = ks.length) (he : ks ++ [s] = ks') (he2 : fs ++ [f] = fs') : OpX P ⟨none, .insert T x y z, ty, pos, af, gd⟩ [(x, .own u), (y, .str s), (z, .r (.one f))] [(u, fmO ks fs)] [] [] [(u, fmO ks' fs')] :=
  (opx_mapPutF (ty := ty) (pos := pos) (af := af) (gd := gd) hl hn he he2).congr (fun _ => rfl) rfl
end
section
variable {cx : Cx} {l : SL} {m : OL} {n : Nat}
theorem le_ren (t u : Nat) {e el : TypeId} {xs ys : List A1} {wd : Nat} {rows : List (List CV)} (htu : Nat.beq t u = false) (hb : lk .gone m t = .box e (xs ++ .own u :: ys)) (hr : lk .gone m u = .row wd el rows) (hxy : (xs ++ ys).all (fun x => x.tag.isNone) = true) :
    Le cx l m n l ((t, .box e (xs ++ .own n :: ys)) :: (n, .row wd el rows) :: (u, .gone) :: m) (n + 1) := by
  rintro a w ⟨ρ, Z, hg⟩
  have hV : n ≤ n := Nat.le_refl n
  have hlu : (lk OB.gone m u).live = true := by rw [hr]; rfl
  have hlt : (lk OB.gone m t).live = true := by rw [hb]; rfl
  have hgone := (hg.virgin n hV).1
  have hnt : t ≠ n := fun e => by subst e; rw [hgone] at hlt; cases hlt
  have hnu : u ≠ n := fun e => by subst e; rw [hgone] at hlu; cases hlu
  have htu' : t ≠ u := fun e => by subst e; simp at htu
  have ho := hg.obj u
  rw [hr] at ho
  have hk := hg.subst (t := u) (u := n) (w' := w) hlu hV (World.grownBy.refl _ _) (v := ρ u) (ob := .row wd el rows)
    (by
      refine ⟨ho.1, ?_⟩
      simp only [if_pos]
      exact ho.2) (fun g hb => .inr hb) (fun s hs => by cases hs)
  have hob := hk.obj t
  have hlk : lkf (lk OB.gone m) [(n, .row wd el rows), (u, .gone)] t = .box e (xs ++ .own u :: ys) := by
    rw [lkf_two, if_neg hnt, if_neg htu', hb]
  rw [hlk] at hob
  obtain ⟨g, us, h1, h2, h3⟩ := hob
  have hcell : D1L (fun s => if s = n then ρ u else ρ s) Z w (xs ++ .own n :: ys) us := by
    clear hk hlk h1 h2 hb hg hxy
    revert us
    induction xs with
    | nil =>
      intro us h3
      cases us with
      | nil => exact h3.elim
      | cons v us =>
        refine ⟨?_, h3.2⟩
        obtain ⟨h4, h5⟩ := h3.1
        exact ⟨by rw [h4]; simp [hnu], h5⟩
    | cons x xs ih =>
      intro us h3
      cases us with
      | nil => exact h3.elim
      | cons v us => exact ⟨h3.1, ih us h3.2⟩
  have k2 := hk.set (t := t) (w' := w) (by rw [hlk]; rfl) (World.grownBy.refl _ _) (ob := .box e (xs ++ .own n :: ys)) ⟨g, us, h1, h2, hcell⟩ (fun s hs hv => by
    simp only [OB.tags, List.flatMap_append, List.flatMap_cons, List.mem_append] at hs
    have hno : ∀ zs : List A1, zs.all (fun x => x.tag.isNone) = true → s ∉ zs.flatMap (fun x => x.tag.toList) := fun zs hz hm => by
      obtain ⟨y, hy, hys⟩ := List.mem_flatMap.1 hm
      have := List.all_eq_true.1 hz y hy
      rw [Option.isNone_iff_eq_none] at this
      rw [this] at hys; cases hys
    rw [List.all_append, Bool.and_eq_true] at hxy
    rcases hs with hs | hs | hs
    · exact hno _ hxy.1 hs
    · have : s = n := by simpa [A1.tag] using hs
      exact hv.2 this
    · exact hno _ hxy.2 hs)
  refine ⟨fun s => if s = n then ρ u else ρ s, Z, ?_⟩
  have e1 : lk OB.gone ((t, .box e (xs ++ .own n :: ys)) :: (n, .row wd el rows) :: (u, .gone) :: m) = lkf (lkf (lk OB.gone m) [(n, .row wd el rows), (u, .gone)]) [(t, .box e (xs ++ .own n :: ys))] := by
    rw [lkf_lk, lk_cons]; rfl
  rw [e1]
  exact k2.weak fun s hs => ⟨Nat.le_of_succ_le hs, fun e => by subst e; omega⟩
end
section
variable {P : Program} {ops : Array Oper} {cx : Cx} {Q : APost} {rest : List Oper} {l : SL} {m : OL} {n : Nat}
variable {d : Nat} {ty : TypeId} {pos : String} {af : Array Edge} {f : FuncId} {xs : List Operand} {ats : Array TypeId} {args rs : List AR}
theorem al_ses {e1 e2 : TypeId} {c : CV} {wd : Nat} {rows : List (List CV)} (t u : Nat) (hm : lk .gone m t = .box e1 [.c c, .own u]) (hm2 : lk .gone m u = .row wd e2 rows) (ht : Nat.blt t n = true) (hu : Nat.blt u n = true) (hne : Nat.beq t u = false)
    (ha : Args (lk .dead l) (lk .gone m) (cpi [t, u] n) false xs args) (hd : Nat.blt d cx.N = true)
    (hc : Con P f args [.box e1 [.c c, .own 1], .row wd e2 rows] (fun r all => r = rs ∧ all = [.box e1 [.c c, .own 1], .row wd e2 rows])) (hn : noTags rs = true)
    (k : AL P ops cx Q rest ((d, mkRes rs) :: l) ((t, .box e1 [.c c, .own u]) :: (u, .row wd e2 rows) :: m) n) :
    AL P ops cx Q (⟨some d, .call { callee := .value (.func f), args := xs.toArray, argTypes := ats }, ty, pos, af, none⟩ :: rest) l m n :=
  al_call_m [t, u] hc (by simp [nodupB, ht, hu, hne]) ⟨hm, hm2, trivial⟩ ha hd fun r all _ ⟨h1, h2⟩ => by
    subst h1 h2
    rw [noTags_sub hn]
    exact k
/-- The call may change both; the slice comes back under a name of its own. -/
theorem al_sput {e1 e2 : TypeId} {c c' : CV} {wd : Nat} {rows rows' : List (List CV)} (t u : Nat) (hm : lk .gone m t = .box e1 [.c c, .own u]) (hm2 : lk .gone m u = .row wd e2 rows) (ht : Nat.blt t n = true) (hu : Nat.blt u n = true) (hne : Nat.beq t u = false)
    (ha : Args (lk .dead l) (lk .gone m) (cpi [t, u] n) false xs args) (hd : Nat.blt d cx.N = true)
    (hc : Con P f args [.box e1 [.c c, .own 1], .row wd e2 rows] (fun r all => r = rs ∧ all = [.box e1 [.c c', .own 2], .gone, .row wd e2 rows'])) (hn : noTags rs = true)
    (k : AL P ops cx Q rest ((d, mkRes rs) :: l) ((t, .box e1 [.c c', .own n]) :: (u, .gone) :: (n, .row wd e2 rows') :: m) (n + 1)) :
    AL P ops cx Q (⟨some d, .call { callee := .value (.func f), args := xs.toArray, argTypes := ats }, ty, pos, af, none⟩ :: rest) l m n :=
  al_call_m [t, u] hc (by simp [nodupB, ht, hu, hne]) ⟨hm, hm2, trivial⟩ ha hd fun r all _ ⟨h1, h2⟩ => by
    subst h1 h2
    rw [noTags_sub hn]
    exact k
end
section
variable {P : Program} {Post : List AR → List OB → Prop} {e : Exit} {l : SL} {m : OL} {n t t2 : Nat}
/-- a box and a slice were handed over -/
theorem rets_raw {v : Value} {e1 e2 : TypeId} {c : CV} {wd : Nat} {rows : List (List CV)} (he : isEnd e) (h : lk .dead l t = .raw v) (h1 : lk .gone m 0 = .box e1 [.c c, .own 1]) (h2 : lk .gone m 1 = .row wd e2 rows)
    (hp : Post [.one (.c (.raw v))] [.box e1 [.c c, .own 1], .row wd e2 rows]) : RetG P [.tmp t] 2 Post e l m n :=
  retg_mk he [_] [_, _] [0, 1] hp (Nat.le_refl _) rfl rfl rfl rfl ⟨h, trivial⟩ ⟨h1, h2, trivial⟩
theorem rets_c_raw {v : Value} {cc : CV} {e1 e2 : TypeId} {c : CV} {wd : Nat} {rows : List (List CV)} (he : isEnd e) (h : lk .dead l t = .c cc) (h3 : lk .dead l t2 = .raw v) (h1 : lk .gone m 0 = .box e1 [.c c, .own 1]) (h2 : lk .gone m 1 = .row wd e2 rows)
    (hp : Post [.one (.c cc), .one (.c (.raw v))] [.box e1 [.c c, .own 1], .row wd e2 rows]) : RetG P [.tmp t, .tmp t2] 2 Post e l m n :=
  retg_mk he [_, _] [_, _] [0, 1] hp (Nat.le_refl _) rfl rfl rfl rfl ⟨h, h3, trivial⟩ ⟨h1, h2, trivial⟩
theorem rets_put {v : Value} {e1 e2 : TypeId} {c : CV} {wd u : Nat} {rows : List (List CV)} (he : isEnd e) (h : lk .dead l t = .raw v) (h0 : Nat.beq u 0 = false) (h01 : Nat.beq u 1 = false) (h1 : lk .gone m 0 = .box e1 [.c c, .own u]) (h2 : lk .gone m 1 = .gone) (h4 : lk .gone m u = .row wd e2 rows)
    (hp : Post [.one (.c (.raw v))] [.box e1 [.c c, .own 2], .gone, .row wd e2 rows]) : RetG P [.tmp t] 2 Post e l m n :=
  retg_mk he [_] [.box e1 [.c c, .own 2], .gone, .row wd e2 rows] [0, 1, u] hp (by simp) (by
    have h0' : Nat.beq 0 u = false := beq_ne fun e => by subst e; simp at h0
    have h1' : Nat.beq 1 u = false := beq_ne fun e => by subst e; simp at h01
    show (((!Nat.beq 0 1) && ((!Nat.beq 0 u) && true)) && (((!Nat.beq 1 u) && true) && (true && true))) = true
    rw [h0', h1']; rfl) rfl rfl rfl ⟨h, trivial⟩ ⟨h1, h2, h4, trivial⟩
end
section
variable {P : Program} {ops : Array Oper} {cx : Cx} {Q : APost} {rest : List Oper} {l : SL} {m : OL} {n : Nat}
variable {d : Nat} {T e ty : TypeId} {bytes : Nat} {zs : List Value} {pos : String} {af : Array Edge}
theorem le_nilRow (t : Nat) (h : lk .gone m t = .row 1 e [[.raw (.slice none 0 0)]]) : Le cx l m n l ((t, .row 1 e (plRs [[]])) :: m) n := by
  rintro a w ⟨ρ, Z, hg⟩
  have ho := hg.obj t
  rw [h] at ho
  obtain ⟨h1, us, h2, h3⟩ := do_row.1 ho
  have hus : us = [.slice none 0 0] := by
    match us, h2 with
    | [v], hd =>
      have h4 : v = .slice none 0 0 := da_raw (ρ := ρ) (Z := Z) (w := w) (show DA ρ Z w (.raw (.slice none 0 0)) v from hd.1)
      rw [h4]
  have k := hg.set (t := t) (w' := w) (by rw [h]; rfl) (World.grownBy.refl _ _) (ob := .row 1 e (plRs [[]]))
    (do_row.2 ⟨fun r hr => by simp [plRs] at hr; rw [hr]; rfl, us, by rw [hus]; exact ⟨DC.nil 2 none 0 (Nat.zero_le _), trivial⟩, h3⟩) (fun s hs => by cases hs)
  refine ⟨ρ, Z, ?_⟩
  rw [show lk OB.gone ((t, .row 1 e (plRs [[]])) :: m) = lkf (lk .gone m) [(t, .row 1 e (plRs [[]]))] from lk_cons _ _ _ _]
  exact k
theorem al_litNilQ [hT : SlT P T e 1 bytes zs] (hd : Nat.blt d cx.N = true) (k : AL P ops cx Q rest ((d, .own n) :: l) ((n, .row 1 e (plRs [[]])) :: (n, .row 1 e [[.raw (.slice none 0 0)]]) :: m) (n + 1)) :
    AL P ops cx Q (⟨some d, .buildSlice T 1 #[(0, .const (.slice none 0 0))], ty, pos, af, none⟩ :: rest) l m n := by
  refine al_n (opx_lit1 (hT := hT) (S := lk .dead l) (ps := [(0, .const (.slice none 0 0))]) (cs := [.raw (.slice none 0 0)]) (.cons rfl (.nil _)) rfl rfl) ⟨rfl, trivial⟩ trivial hd ?_
  exact al_le (le_nilRow n (by simp [lk, beq_self])) k
end
end Go.Proofs.YtfoecgfboicphaaGreatDoor
/-
  Sessions: the program's questions.
-/
namespace Go.Proofs.YtfoecgfboicphaaGreatDoor
open Go.RowKit
set_option linter.unusedVariables false
set_option linter.unusedSimpArgs false
attribute [local irreducible] AL AW OpX Le AD

abbrev sesB (c : List (List Lb)) (u : Nat) : OB := .box 42 [.c (.sl 1 (lcRs c)), .own u]
abbrev ptsO (ps : List (List Pt)) : OB := .row 1 71 (plRs ps)
theorem VL_big {l : List Lb} (h : VL l) : l.length ≤ 1000000 ∧ ∀ y ∈ l, BIG y.1.length ∧ BIG y.2.length :=
  ⟨by have := h.1; omega, fun y hy => by obtain ⟨h1, h2⟩ := VL_mem h hy; exact ⟨by have := h1.2.1; unfold BIG; omega, by have := h2.2.1; unfold BIG; omega⟩⟩
theorem VCt_VL {c : List (List Lb)} (h : VCt c) {l : List Lb} (hl : l ∈ c) : VL l := by
  obtain ⟨k, hk⟩ := List.mem_iff_getElem?.1 hl
  exact (h.2 k l hk).1
theorem VCt_big {c : List (List Lb)} (h : VCt c) : c.length ≤ 1000000 ∧ ctBig c := ⟨by have := h.1; omega, fun l hl => VL_big (VCt_VL h hl)⟩
theorem prs_VL (w : Str) : VL (prsL w) := by
  cases h : prsB w with
  | true => exact (prs_of h).1
  | false =>
    have : prsL w = [] := (prs_f fun l hl => by rw [(prs_t hl).1] at h; cases h).2
    rw [this]
    exact IsT_nil.1
theorem fsI_eq {c : List (List Lb)} {l : List Lb} (h : VCt c) (hl : VL l) : fsI c l = plcI c l := by rw [fsI, vctB_t h, vlB_t hl]; rfl
theorem fnd_VS {s : Ss} (h : okSs s) (w : Str) : VS (fndP s w) := by
  unfold fndP
  split
  · rw [List.getD_eq_getElem?_getD]
    cases hq : s.2[plC s.1 (prsL w)]? with
    | none => exact VS_nil
    | some q => exact h.ser q (List.mem_of_getElem? hq)
  · exact VS_nil
theorem c_find (s : Ss) (w : Str) (h : okSs s) (hw : w.length ≤ 2000000) :
    Con Tryz.prog 34 [.one (.ref 0 0), rStr w] [sesB s.1 1, ptsO s.2] (fun rs all => rs = [slP (fndP s w), rB (fndB s w)] ∧ all = [sesB s.1 1, ptsO s.2]) := by
  obtain ⟨c, ps⟩ := s
  have hlen : ps.length = c.length := h.len
  have hC : VCt c := h.cat
  obtain ⟨b1, b2⟩ := VCt_big hC
  have n1 : (!true) = false := rfl
  have n2 : (!false) = true := rfl
  have hVL := prs_VL w
  have hcp := c_ParseLabels' w (by omega)
  have hcf := c_FindSeries c (prsL w) b1 b2 (VL_big hVL).1 (VL_big hVL).2
  rw [fsI_eq hC hVL] at hcf
  have hpl := plRs_len (xs := ps)
  refine con_of_aw (vars := [.tmp 4, .tmp 5]) [(0, .ref 0 0), (1, .r (rStr w))] [(0, sesB c 1), (1, ptsO ps)] 2 Tryz.func34 (by kernel_rfl) rfl Tryz.ntmps34 rfl (by decide) rfl rfl rfl rfl rfl ?_; intro B M w0 ρ0 Z0
  cases hp : prsB w with
  | false =>
    rw [hp] at hcp
    have f1 : fndB (c, ps) w = false := by rw [fndB, hp]; rfl
    have f2 : fndP (c, ps) w = [] := by rw [fndP, f1]; rfl
    repeat' (first | (refine is_al ?_; (first | (refine is_move ?_; (first | refine al_v (opx_move (.raw _)) ⟨rfl, trivial⟩ trivial rfl ?_ | refine al_v (opx_move (.tup _)) ⟨rfl, trivial⟩ trivial rfl ?_)) | (refine is_assign ?_; (first | refine al_v (opx_assign (.raw _)) ⟨rfl, trivial⟩ trivial rfl ?_ | refine al_v (opx_assign (.sl _ _)) ⟨rfl, trivial⟩ trivial rfl ?_)) | (refine is_call ?_; refine al_callF (by (repeat (first | exact .nil | refine .one rfl rfl ?_ | refine .froz rfl rfl ?_ | refine .rnil rfl ?_ | refine .agg rfl (by (repeat (first | exact .nil | refine .cons (.same rfl) ?_ | refine .cons (.froz rfl) ?_ | refine .cons (.rnil) ?_)); (first | done | fail)) ?_)); (first | done | fail)) rfl (hcp) rfl ?_) | refine al_v opx_not ⟨rfl, trivial⟩ trivial rfl ?_ | refine al_v (opx_extract _ rfl) ⟨rfl, trivial⟩ trivial rfl ?_ | refine al_nil ?_)) | (refine is_aw ?_; (first | refine aw_seq ?_ | refine aw_region ?_ | (refine is_cond ?_; refine aw_cond_t rfl rfl ?_))) | refine thn_n ?_)
    refine aw_le (le_slNil 4 2 rfl) ?_
    repeat' (first | (refine is_aw ?_; refine aw_ret ?_) | refine thn_r ?_)
    exact rets_c_raw trivial rfl rfl rfl rfl ⟨by rw [f1, f2]; rfl, rfl⟩
  | true =>
    rw [hp] at hcp
    by_cases hi : plC c (prsL w) < c.length
    · have e0 : plcI c (prsL w) = (plC c (prsL w) : Int) := by rw [plcI, if_pos hi]
      rw [e0] at hcf
      have f1 : fndB (c, ps) w = true := by rw [fndB, hp]; exact decide_eq_true hi
      obtain ⟨q, hq⟩ : ∃ q, ps[plC c (prsL w)]? = some q := ⟨_, List.getElem?_eq_getElem (by omega)⟩
      have f2 : fndP (c, ps) w = q := by rw [fndP, if_pos f1, List.getD_eq_getElem?_getD, hq]; rfl
      generalize plC c (prsL w) = k at hcf hi hq
      have hqr := plRs_at hq
      have e1 : decide ((k : Int) < 0) = false := decide_eq_false (by omega)
      have hkl : k < (plRs ps).length := by omega
      repeat' (first | (refine is_al ?_; (first | (refine is_move ?_; (first | refine al_v (opx_move (.raw _)) ⟨rfl, trivial⟩ trivial rfl ?_ | refine al_v (opx_move (.sl _ _)) ⟨rfl, trivial⟩ trivial rfl ?_ | refine al_v (opx_move (.ref _ _)) ⟨rfl, trivial⟩ trivial rfl ?_ | refine al_v (opx_move (.tup _)) ⟨rfl, trivial⟩ trivial rfl ?_)) | (refine is_bin ?_; refine al_v opx_lss ⟨rfl, rfl, trivial⟩ trivial rfl ?_) | (refine is_load ?_; (first | refine al_v (opx_ld_box rfl) ⟨rfl, trivial⟩ ⟨rfl, trivial⟩ rfl ?_ | refine al_v (opx_ld_el (by assumption) rfl) ⟨rfl, trivial⟩ ⟨rfl, trivial⟩ rfl ?_)) | (refine is_fa ?_; refine al_v opx_fa_ref ⟨rfl, trivial⟩ trivial rfl ?_) | (refine is_assign ?_; (first | refine al_v (opx_assign (.raw _)) ⟨rfl, trivial⟩ trivial rfl ?_ | refine al_v (opx_assign (.sl _ _)) ⟨rfl, trivial⟩ trivial rfl ?_)) | (refine is_ia ?_; refine al_v (opx_ia_own2 hkl (by omega)) ⟨rfl, rfl, trivial⟩ ⟨rfl, trivial⟩ rfl ?_) | (refine is_call ?_; (first | refine al_callF (by (repeat (first | exact .nil | refine .one rfl rfl ?_ | refine .froz rfl rfl ?_ | refine .rnil rfl ?_ | refine .agg rfl (by (repeat (first | exact .nil | refine .cons (.same rfl) ?_ | refine .cons (.froz rfl) ?_ | refine .cons (.rnil) ?_)); (first | done | fail)) ?_)); (first | done | fail)) rfl (hcp) rfl ?_ | refine al_callv2 (by (repeat (first | exact .nil | refine .one rfl rfl ?_ | refine .froz rfl rfl ?_ | refine .row rfl rfl ?_ | refine .rnil rfl ?_ | refine .agg rfl (by (repeat (first | exact .nil | refine .cons (.same rfl) ?_ | refine .cons (.froz rfl) ?_ | refine .cons (.rnil) ?_ | refine .cons (.row rfl rfl) ?_)); (first | done | fail)) ?_)); (first | done | fail)) rfl (hcf) rfl ?_)) | refine al_v opx_not ⟨rfl, trivial⟩ trivial rfl ?_ | refine al_v opx_nilck ⟨rfl, trivial⟩ trivial rfl ?_ | refine al_v (opx_extract _ rfl) ⟨rfl, trivial⟩ trivial rfl ?_ | refine al_nil ?_)) | (refine is_aw ?_; (first | refine aw_seq ?_ | refine aw_region ?_ | refine aw_skip ?_ | refine aw_ret ?_ | (refine is_cond ?_; refine aw_cond_f rfl rfl ?_))))
      exact rets_c_raw trivial rfl rfl rfl rfl ⟨by rw [f1, f2], rfl⟩
    · have e0 : plcI c (prsL w) = -1 := by rw [plcI, if_neg hi]
      rw [e0] at hcf
      have f1 : fndB (c, ps) w = false := by rw [fndB, hp]; exact decide_eq_false hi
      have f2 : fndP (c, ps) w = [] := by rw [fndP, f1]; rfl
      have e1 : decide ((-1 : Int) < 0) = true := rfl
      repeat' (first | (refine is_al ?_; (first | (refine is_move ?_; (first | refine al_v (opx_move (.raw _)) ⟨rfl, trivial⟩ trivial rfl ?_ | refine al_v (opx_move (.sl _ _)) ⟨rfl, trivial⟩ trivial rfl ?_ | refine al_v (opx_move (.ref _ _)) ⟨rfl, trivial⟩ trivial rfl ?_ | refine al_v (opx_move (.tup _)) ⟨rfl, trivial⟩ trivial rfl ?_)) | (refine is_bin ?_; refine al_v opx_lss ⟨rfl, rfl, trivial⟩ trivial rfl ?_) | (refine is_load ?_; refine al_v (opx_ld_box rfl) ⟨rfl, trivial⟩ ⟨rfl, trivial⟩ rfl ?_) | (refine is_fa ?_; refine al_v opx_fa_ref ⟨rfl, trivial⟩ trivial rfl ?_) | (refine is_assign ?_; (first | refine al_v (opx_assign (.raw _)) ⟨rfl, trivial⟩ trivial rfl ?_ | refine al_v (opx_assign (.sl _ _)) ⟨rfl, trivial⟩ trivial rfl ?_)) | (refine is_call ?_; (first | refine al_callF (by (repeat (first | exact .nil | refine .one rfl rfl ?_ | refine .froz rfl rfl ?_ | refine .rnil rfl ?_ | refine .agg rfl (by (repeat (first | exact .nil | refine .cons (.same rfl) ?_ | refine .cons (.froz rfl) ?_ | refine .cons (.rnil) ?_)); (first | done | fail)) ?_)); (first | done | fail)) rfl (hcp) rfl ?_ | refine al_callv2 (by (repeat (first | exact .nil | refine .one rfl rfl ?_ | refine .froz rfl rfl ?_ | refine .row rfl rfl ?_ | refine .rnil rfl ?_ | refine .agg rfl (by (repeat (first | exact .nil | refine .cons (.same rfl) ?_ | refine .cons (.froz rfl) ?_ | refine .cons (.rnil) ?_ | refine .cons (.row rfl rfl) ?_)); (first | done | fail)) ?_)); (first | done | fail)) rfl (hcf) rfl ?_)) | refine al_v opx_not ⟨rfl, trivial⟩ trivial rfl ?_ | refine al_v opx_nilck ⟨rfl, trivial⟩ trivial rfl ?_ | refine al_v (opx_extract _ rfl) ⟨rfl, trivial⟩ trivial rfl ?_ | refine al_nil ?_)) | (refine is_aw ?_; (first | refine aw_seq ?_ | refine aw_region ?_ | refine aw_skip ?_ | (refine is_cond ?_; (first | refine aw_cond_t rfl rfl ?_ | refine aw_cond_f rfl rfl ?_)))) | refine thn_n ?_)
      refine aw_le (le_slNil 4 2 rfl) ?_
      repeat' (first | (refine is_aw ?_; refine aw_ret ?_) | refine thn_r ?_)
      exact rets_c_raw trivial rfl rfl rfl rfl ⟨by rw [f1, f2]; rfl, rfl⟩
theorem cntV_take {ps : List (List Pt)} {k : Nat} {q : List Pt} (h : ps[k]? = some q) : cntV (ps.take (k + 1)) = cntV (ps.take k) + q.length := by
  rw [take_snoc h, cntV, cntV]
  simp
theorem cntV_le {ps : List (List Pt)} (h : ∀ q ∈ ps, VS q) : cntV ps ≤ 16 * ps.length := by
  unfold cntV
  induction ps with
  | nil => simp
  | cons p ps ih =>
    have h1 := ih fun q hq => h q (.tail _ hq)
    have h2 := (h p (.head _)).1
    simp only [List.map_cons, List.sum_cons, List.length_cons]
    omega
theorem cntV_part {s : Ss} (h : okSs s) (k : Nat) : cntV (s.2.take k) ≤ 128 := by
  have h1 := cntV_le (ps := s.2.take k) fun q hq => h.ser q (List.mem_of_mem_take hq)
  have h2 := h.cat.1
  have h3 := h.len
  rw [List.length_take] at h1
  omega
theorem c_count (s : Ss) (r : Str) (sp : Bool) (h : okSs s) :
    Con Tryz.prog 24 [.one (.ref 0 0), rStr r, rB sp] [sesB s.1 1, ptsO s.2] (fun rs all => rs = [rStr (cntT s sp)] ∧ all = [sesB s.1 1, ptsO s.2]) := by
  obtain ⟨c, ps⟩ := s
  have hC : VCt c := h.cat
  have hcl := lcRs_len (xs := c)
  have hpl := plRs_len (xs := ps)
  have hc8 := hC.1
  have hp8 : ps.length = c.length := h.len
  refine con_of_aw (vars := [.tmp 6]) [(0, .ref 0 0), (1, .r (rStr r)), (2, .r (rB sp))] [(0, sesB c 1), (1, ptsO ps)] 2 Tryz.func24 (by kernel_rfl) rfl Tryz.ntmps24 rfl (by decide) rfl rfl rfl rfl rfl ?_; intro B M w0 ρ0 Z0
  cases sp with
  | true =>
    repeat' (first | (refine is_al ?_; (first | (refine is_move ?_; refine al_v (opx_move (.raw _)) ⟨rfl, trivial⟩ trivial rfl ?_) | (refine is_assign ?_; refine al_v (opx_assign (.raw _)) ⟨rfl, trivial⟩ trivial rfl ?_) | refine al_nil ?_)) | (refine is_aw ?_; (first | refine aw_seq ?_ | refine aw_region ?_ | refine aw_ret ?_ | (refine is_cond ?_; refine aw_cond_t rfl rfl ?_))) | refine thn_r ?_)
    exact rets_raw trivial rfl rfl rfl ⟨rfl, rfl⟩
  | false =>
    repeat' (first | (refine is_al ?_; (first | (refine is_move ?_; (first | refine al_v (opx_move (.raw _)) ⟨rfl, trivial⟩ trivial rfl ?_ | refine al_v (opx_move (.ref _ _)) ⟨rfl, trivial⟩ trivial rfl ?_)) | (refine is_load ?_; refine al_v (opx_ld_box rfl) ⟨rfl, trivial⟩ ⟨rfl, trivial⟩ rfl ?_) | (refine is_fa ?_; refine al_v opx_fa_ref ⟨rfl, trivial⟩ trivial rfl ?_) | (refine is_assign ?_; refine al_v (opx_assign (.raw _)) ⟨rfl, trivial⟩ trivial rfl ?_) | (refine is_bi ?_; refine al_v opx_len_own ⟨rfl, trivial⟩ ⟨rfl, trivial⟩ rfl ?_) | refine al_v opx_nilck ⟨rfl, trivial⟩ trivial rfl ?_ | refine al_nil ?_)) | (refine is_aw ?_; (first | refine aw_seq ?_ | refine aw_region ?_ | refine aw_skip ?_ | refine aw_block ?_ | (refine is_cond ?_; refine aw_cond_f rfl rfl ?_))))
    refine aw_loop (γ := Nat) (fun k => [(0, .ref 0 0), (7, .i (cntV (ps.take k) : Int)), (14, .own 1), (15, .i ((plRs ps).length : Int)), (16, .i (k : Int))]) (fun k => [(0, sesB c 1), (1, ptsO ps)]) (fun _ => 2) (fun k => k ≤ ps.length) (fun k => ps.length - k) 0 (Nat.zero_le _) (le_mk [0, 1] rfl rfl rfl rfl ⟨rfl, rfl, rfl, rfl, rfl, trivial⟩ ⟨rfl, rfl, trivial⟩) ?_
    intro k hk
    have hb1 := cntV_part h k
    dsimp only at hb1
    rcases Nat.lt_or_ge k ps.length with hlt | hge
    · have hc1 : decide ((k : Int) < ((plRs ps).length : Int)) = true := decide_eq_true (by omega)
      obtain ⟨q, hq⟩ : ∃ q, ps[k]? = some q := ⟨_, List.getElem?_eq_getElem hlt⟩
      have hqr := plRs_at hq
      have hs := cntV_take hq
      have hb2 := cntV_part h (k + 1)
      dsimp only at hb2
      have hql := ptRs_len (ps := q)
      have hkl : k < (plRs ps).length := by omega
      have he : (cntV (ps.take k) : Int) + ((ptRs q).length : Int) = (cntV (ps.take (k + 1)) : Int) := by rw [hs]; omega
      repeat' (first | (refine is_al ?_; (first | (refine is_move ?_; (first | refine al_v (opx_move (.raw _)) ⟨rfl, trivial⟩ trivial rfl ?_ | refine al_v (opx_move (.sl _ _)) ⟨rfl, trivial⟩ trivial rfl ?_)) | (refine is_bin ?_; (first | refine al_v opx_lss ⟨rfl, rfl, trivial⟩ trivial rfl ?_ | refine al_v (opx_add (by unfold InR; omega)) ⟨rfl, rfl, trivial⟩ trivial rfl ?_)) | (refine is_load ?_; refine al_v (opx_ld_el (by assumption) rfl) ⟨rfl, trivial⟩ ⟨rfl, trivial⟩ rfl ?_) | (refine is_assign ?_; (first | refine al_v (opx_assign (.raw _)) ⟨rfl, trivial⟩ trivial rfl ?_ | refine al_v (opx_assign (.sl _ _)) ⟨rfl, trivial⟩ trivial rfl ?_)) | (refine is_bi ?_; refine al_v opx_len_sl ⟨rfl, trivial⟩ trivial rfl ?_) | (refine is_ia ?_; refine al_v (opx_ia_own2 hkl (by omega)) ⟨rfl, rfl, trivial⟩ ⟨rfl, trivial⟩ rfl ?_) | refine al_nil ?_)) | (refine is_aw ?_; (first | refine aw_seq ?_ | refine aw_region ?_ | refine aw_skip ?_ | refine aw_block ?_ | (refine is_cond ?_; refine aw_cond_t rfl (by assumption) ?_))) | refine thn_n ?_)
      exact ⟨k + 1, hlt, by omega, le_mk [0, 1] rfl rfl rfl rfl ⟨rfl, by rw [← he]; rfl, rfl, rfl, rfl, trivial⟩ ⟨rfl, rfl, trivial⟩⟩
    · have hc1 : decide ((k : Int) < ((plRs ps).length : Int)) = false := decide_eq_false (by omega)
      rw [List.take_of_length_le hge] at hb1 ⊢
      have l1 := itoa_len (n := (c.length : Int)) (by omega)
      have l2 := itoa_len (n := (cntV ps : Int)) (by omega)
      have c1 : Con Tryz.prog 37 [rI ((lcRs c).length : Int)] [] (fun rs all => rs = [rStr (Lib.itoa (c.length : Int))] ∧ all = []) := by rw [hcl]; exact c_Itoa _ (by omega)
      repeat' (first | (refine is_al ?_; (first | (refine is_move ?_; (first | refine al_v (opx_move (.raw _)) ⟨rfl, trivial⟩ trivial rfl ?_ | refine al_v (opx_move (.ref _ _)) ⟨rfl, trivial⟩ trivial rfl ?_)) | (refine is_bin ?_; refine al_v opx_lss ⟨rfl, rfl, trivial⟩ trivial rfl ?_) | (refine is_load ?_; refine al_v (opx_ld_box rfl) ⟨rfl, trivial⟩ ⟨rfl, trivial⟩ rfl ?_) | (refine is_fa ?_; refine al_v opx_fa_ref ⟨rfl, trivial⟩ trivial rfl ?_) | (refine is_assign ?_; refine al_v (opx_assign (.raw _)) ⟨rfl, trivial⟩ trivial rfl ?_) | (refine is_bi ?_; refine al_v opx_len_sl ⟨rfl, trivial⟩ trivial rfl ?_) | (refine is_call ?_; (first | refine al_callv2 (by (repeat (first | exact .nil | refine .one rfl rfl ?_ | refine .froz rfl rfl ?_ | refine .row rfl rfl ?_ | refine .rnil rfl ?_ | refine .agg rfl (by (repeat (first | exact .nil | refine .cons (.same rfl) ?_ | refine .cons (.froz rfl) ?_ | refine .cons (.rnil) ?_ | refine .cons (.row rfl rfl) ?_)); (first | done | fail)) ?_)); (first | done | fail)) rfl (c1) rfl ?_ | refine al_callv2 (by (repeat (first | exact .nil | refine .one rfl rfl ?_ | refine .froz rfl rfl ?_ | refine .row rfl rfl ?_ | refine .rnil rfl ?_ | refine .agg rfl (by (repeat (first | exact .nil | refine .cons (.same rfl) ?_ | refine .cons (.froz rfl) ?_ | refine .cons (.rnil) ?_ | refine .cons (.row rfl rfl) ?_)); (first | done | fail)) ?_)); (first | done | fail)) rfl (c_Itoa _ (by omega)) rfl ?_)) | refine al_v opx_nilck ⟨rfl, trivial⟩ trivial rfl ?_ | refine al_nil ?_ | refine al_v (opx_cat (by simp only [List.length_append, List.length_cons, List.length_nil]; omega)) ⟨rfl, rfl, trivial⟩ trivial rfl ?_)) | (refine is_ad ?_; refine al_v (opx_cat (by simp only [List.length_append, List.length_cons, List.length_nil]; omega)) ⟨rfl, rfl, trivial⟩ trivial rfl ?_) | (refine is_aw ?_; (first | refine aw_seq ?_ | refine aw_region ?_ | refine aw_ret ?_ | refine aw_exit ?_ | (refine is_cond ?_; refine aw_cond_f rfl (by assumption) ?_))))
      exact rets_raw trivial rfl rfl rfl ⟨rfl, rfl⟩
end Go.Proofs.YtfoecgfboicphaaGreatDoor

/- Texts: Eng40 W117 W9 W10 W118 -/
import Derived.Test.YtfoecgfboicphaaGreatDoorCL25
import Derived.Test.YtfoecgfboicphaaGreatDoorCL14
import Derived.Test.YtfoecgfboicphaaGreatDoorCL20
/-
  Calls that are handed a builder.
-/
namespace Go.Proofs.YtfoecgfboicphaaGreatDoor
open Go.RowKit
set_option linter.unusedVariables false
set_option linter.unusedSimpArgs false
section
variable {P : Program} {ops : Array Oper} {cx : Cx} {Q : APost} {rest : List Oper} {l : SL} {m : OL} {n : Nat}
variable {d : Nat} {ty : TypeId} {pos : String} {af : Array Edge} {f : FuncId} {xs : List Operand} {ats : Array TypeId} {args rs : List AR} {T e2 : TypeId} {wd : Nat} {rows rows' : List (List CV)}
theorem al_chkN {v : Value} (t u : Nat) (hm : lk .gone m t = .box T [.c (.raw v), .own u]) (hm2 : lk .gone m u = .row wd e2 rows) (ht : Nat.blt t n = true) (hu : Nat.blt u n = true) (hne : Nat.beq t u = false)
    (ha : Args (lk .dead l) (lk .gone m) (cpi [t, u] n) false xs args) (hd : Nat.blt d cx.N = true)
    (hc : Con P f args [.box T [.c (.raw v), .own 1], .row wd e2 rows] (fun r all => r = [] ∧ all = [.box T [.ref 0 0, .own 1], .row wd e2 rows]))
    (k : AL P ops cx Q rest ((d, .tup []) :: l) ((t, .box T [.ref t 0, .own u]) :: (u, .row wd e2 rows) :: m) n) :
    AL P ops cx Q (⟨some d, .call { callee := .value (.func f), args := xs.toArray, argTypes := ats }, ty, pos, af, none⟩ :: rest) l m n :=
  al_call_m [t, u] hc (by simp [nodupB, ht, hu, hne]) ⟨hm, hm2, trivial⟩ ha hd fun r all _ ⟨h1, h2⟩ => by
    subst h1 h2
    exact k
theorem al_chkU (t u : Nat) (hm : lk .gone m t = .box T [.ref t 0, .own u]) (hm2 : lk .gone m u = .row wd e2 rows) (ht : Nat.blt t n = true) (hu : Nat.blt u n = true) (hne : Nat.beq t u = false)
    (ha : Args (lk .dead l) (lk .gone m) (cpi [t, u] n) false xs args) (hd : Nat.blt d cx.N = true)
    (hc : Con P f args [.box T [.ref 0 0, .own 1], .row wd e2 rows] (fun r all => r = [] ∧ all = [.box T [.ref 0 0, .own 1], .row wd e2 rows]))
    (k : AL P ops cx Q rest ((d, .tup []) :: l) ((t, .box T [.ref t 0, .own u]) :: (u, .row wd e2 rows) :: m) n) :
    AL P ops cx Q (⟨some d, .call { callee := .value (.func f), args := xs.toArray, argTypes := ats }, ty, pos, af, none⟩ :: rest) l m n :=
  al_call_m [t, u] hc (by simp [nodupB, ht, hu, hne]) ⟨hm, hm2, trivial⟩ ha hd fun r all _ ⟨h1, h2⟩ => by
    subst h1 h2
    exact k
/-- A write into a builder. -/
theorem al_bw (t u : Nat) (hm : lk .gone m t = bldO T u) (hm2 : lk .gone m u = .row wd e2 rows) (ht : Nat.blt t n = true) (hu : Nat.blt u n = true) (hne : Nat.beq t u = false)
    (ha : Args (lk .dead l) (lk .gone m) (cpi [t, u] n) false xs args) (hd : Nat.blt d cx.N = true)
    (hc : Con P f args [bldO T 1, .row wd e2 rows] (fun r all => r = rs ∧ all = [.box T [.ref 0 0, .own 2], .gone, .row wd e2 rows'])) (hn : noTags rs = true)
    (k : AL P ops cx Q rest ((d, mkRes rs) :: l) ((t, .box T [.ref t 0, .own n]) :: (u, .gone) :: (n, .row wd e2 rows') :: m) (n + 1)) :
    AL P ops cx Q (⟨some d, .call { callee := .value (.func f), args := xs.toArray, argTypes := ats }, ty, pos, af, none⟩ :: rest) l m n :=
  al_call_m [t, u] hc (by simp [nodupB, ht, hu, hne]) ⟨hm, hm2, trivial⟩ ha hd fun r all _ ⟨h1, h2⟩ => by
    subst h1 h2
    rw [noTags_sub hn]
    exact k
/-- A write into a builder that was written. -/
theorem al_bu (t u : Nat) (hm : lk .gone m t = .box T [.ref t 0, .own u]) (hm2 : lk .gone m u = .row wd e2 rows) (ht : Nat.blt t n = true) (hu : Nat.blt u n = true) (hne : Nat.beq t u = false)
    (ha : Args (lk .dead l) (lk .gone m) (cpi [t, u] n) false xs args) (hd : Nat.blt d cx.N = true)
    (hc : Con P f args [.box T [.ref 0 0, .own 1], .row wd e2 rows] (fun r all => r = rs ∧ all = [.box T [.ref 0 0, .own 2], .gone, .row wd e2 rows'])) (hn : noTags rs = true)
    (k : AL P ops cx Q rest ((d, mkRes rs) :: l) ((t, .box T [.ref t 0, .own n]) :: (u, .gone) :: (n, .row wd e2 rows') :: m) (n + 1)) :
    AL P ops cx Q (⟨some d, .call { callee := .value (.func f), args := xs.toArray, argTypes := ats }, ty, pos, af, none⟩ :: rest) l m n :=
  al_call_m [t, u] hc (by simp [nodupB, ht, hu, hne]) ⟨hm, hm2, trivial⟩ ha hd fun r all _ ⟨h1, h2⟩ => by
    subst h1 h2
    rw [noTags_sub hn]
    exact k
/-- The builder's text; it is written no more. -/
theorem al_bs (t u : Nat) (hm : lk .gone m t = bldO T u) (hm2 : lk .gone m u = .row wd e2 rows) (ht : Nat.blt t n = true) (hu : Nat.blt u n = true) (hne : Nat.beq t u = false)
    (ha : Args (lk .dead l) (lk .gone m) (cpi [t, u] n) false xs args) (hd : Nat.blt d cx.N = true)
    (hc : Con P f args [bldO T 1, .row wd e2 rows] (fun r all => r = rs ∧ all = [.gone, .gone])) (hn : noTags rs = true)
    (k : AL P ops cx Q rest ((d, mkRes rs) :: l) ((t, .gone) :: (u, .gone) :: m) n) :
    AL P ops cx Q (⟨some d, .call { callee := .value (.func f), args := xs.toArray, argTypes := ats }, ty, pos, af, none⟩ :: rest) l m n :=
  al_call_m [t, u] hc (by simp [nodupB, ht, hu, hne]) ⟨hm, hm2, trivial⟩ ha hd fun r all _ ⟨h1, h2⟩ => by
    subst h1 h2
    rw [noTags_sub hn]
    exact k
/-- A call that is handed one object without names in it. -/
theorem al_one {ob ob' : OB} (t : Nat) (hm : lk .gone m t = ob) (ht : Nat.blt t n = true) (ha : Args (lk .dead l) (lk .gone m) (cpi [t] n) false xs args) (hd : Nat.blt d cx.N = true)
    (hs : ob.sub (cpi [t] n) = ob) (hs' : ob'.sub (cpi [t] n) = ob') (hc : Con P f args [ob] (fun r all => r = rs ∧ all = [ob'])) (hn : noTags rs = true)
    (k : AL P ops cx Q rest ((d, mkRes rs) :: l) ((t, ob') :: m) n) :
    AL P ops cx Q (⟨some d, .call { callee := .value (.func f), args := xs.toArray, argTypes := ats }, ty, pos, af, none⟩ :: rest) l m n :=
  al_call_m [t] hc (by simp [nodupB, ht]) ⟨by rw [hs]; exact hm, trivial⟩ ha hd fun r all _ ⟨h1, h2⟩ => by
    subst h1 h2
    rw [noTags_sub hn]
    have e : obLM (cpi [t] n) 0 [ob'] = [(t, ob')] := by
      show [(cpi [t] n 0, ob'.sub (cpi [t] n))] = _
      rw [hs']; rfl
    rw [e]
    exact k
theorem ad_one {ob ob' : OB} {ol : List Oper} {done : List Keys} (t : Nat) (hm : lk .gone m t = ob) (ha : ArgsT t (lk .dead l) (lk .gone m) xs args) (hd : Nat.blt d cx.N = true) (hc : Con P f args [ob] (fun r all => r = rs ∧ all = [ob'])) (hv : ob.live = true) (hv' : ob'.live = true) (hs : ob.sub (fun _ => t) = ob) (htg : ob'.tags = []) (hs' : ob'.sub (fun _ => t) = ob') (hn : noTags rs = true)
    (k : AD P ol cx Q (⟨rtmps (argR (lk .dead l) xs), [d], t :: (argO (lk .dead l) (lk .gone m) xs).map (·.1), [t], []⟩ :: done) rest ((d, mkRes rs) :: l) ((t, ob') :: m) n) :
    AD P ol cx Q done (⟨some d, .call { callee := .value (.func f), args := xs.toArray, argTypes := ats }, ty, pos, af, none⟩ :: rest) l m n := by
  obtain ⟨h1, h2, h3⟩ := ha.ok
  exact ad_ent (n' := n) (entOK_of (opx_callO hc hv hv' hs htg hs' hn h3)) h1 ⟨hm, h2⟩ (by simp) (Nat.le_refl _) ⟨hd, trivial⟩ k
theorem le_bld {cells : List A1} (t u : Nat) (h : lk .gone m t = .box T cells) (hc : cells = [.ref t 0, .own u] ∨ cells = [.c (.raw (.pointer none)), .own u]) : Le cx l m n l ((t, bldO T u) :: m) n := by
  rintro a w ⟨ρ, Z, hg⟩
  have ho := hg.obj t
  rw [h] at ho
  have hb : DO ρ Z w t (bldO T u) := by
    rcases hc with rfl | rfl
    · exact do_bldU ho
    · exact do_bldN ho
  have k := hg.set (t := t) (w' := w) (by rw [h]; rfl) (World.grownBy.refl _ _) (ob := bldO T u) hb (fun s hs hv => by
    have hs1 : s = u := by simpa [OB.tags, A1.tag] using hs
    refine (hg.virgin s hv).2.2 t ?_
    rw [h]
    rcases hc with rfl | rfl <;> simp [OB.tags, A1.tag, hs1])
  refine ⟨ρ, Z, ?_⟩
  rw [show lk OB.gone ((t, bldO T u) :: m) = lkf (lk .gone m) [(t, bldO T u)] from lk_cons _ _ _ _]
  exact k
end
section
variable {P : Program} {Post : List AR → List OB → Prop} {e : Exit} {l : SL} {m : OL} {n t t2 : Nat} {T e2 : TypeId} {wd : Nat} {rows : List (List CV)}
theorem retb_none (he : isEnd e) (h1 : lk .gone m 0 = .box T [.ref 0 0, .own 1]) (h2 : lk .gone m 1 = .row wd e2 rows) (hp : Post [] [.box T [.ref 0 0, .own 1], .row wd e2 rows]) : RetG P [] 2 Post e l m n :=
  retg_mk he [] [_, _] [0, 1] hp (Nat.le_refl _) rfl rfl rfl rfl trivial ⟨h1, h2, trivial⟩
theorem retm_c_raw {v : Value} {cc : CV} {ob : OB} (he : isEnd e) (h : lk .dead l t = .c cc) (h3 : lk .dead l t2 = .raw v) (ho : lk .gone m 0 = ob) (hp : Post [.one (.c cc), .one (.c (.raw v))] [ob]) (hs : ob.sub (perm [0]) = ob := by rfl) (ht : resTags [.one (.c cc), .one (.c (.raw v))] [ob] = true := by rfl) : RetG P [.tmp t, .tmp t2] 1 Post e l m n :=
  retg_mk he [_, _] [ob] [0] hp (Nat.le_refl _) rfl rfl rfl ht ⟨h, h3, trivial⟩ ⟨by rw [hs]; exact ho, trivial⟩
theorem nodup01 {u : Nat} (h0 : Nat.beq u 0 = false) (h01 : Nat.beq u 1 = false) : nodupB [0, 1, u] = true := by
  have h0' : Nat.beq 0 u = false := beq_ne fun e => by subst e; simp at h0
  have h1' : Nat.beq 1 u = false := beq_ne fun e => by subst e; simp at h01
  show (((!Nat.beq 0 1) && ((!Nat.beq 0 u) && true)) && (((!Nat.beq 1 u) && true) && (true && true))) = true
  rw [h0', h1']; rfl
theorem retb_raw {u : Nat} {v : Value} (he : isEnd e) (h : lk .dead l t = .raw v) (h0 : Nat.beq u 0 = false) (h01 : Nat.beq u 1 = false) (h1 : lk .gone m 0 = .box T [.ref 0 0, .own u]) (h2 : lk .gone m 1 = .gone) (h4 : lk .gone m u = .row wd e2 rows)
    (hp : Post [.one (.c (.raw v))] [.box T [.ref 0 0, .own 2], .gone, .row wd e2 rows]) : RetG P [.tmp t] 2 Post e l m n :=
  retg_mk he [_] [.box T [.ref 0 0, .own 2], .gone, .row wd e2 rows] [0, 1, u] hp (by simp) (nodup01 h0 h01) rfl rfl rfl ⟨h, trivial⟩ ⟨h1, h2, h4, trivial⟩
theorem retb_raw2 {u : Nat} {v v2 : Value} (he : isEnd e) (h : lk .dead l t = .raw v) (h5 : lk .dead l t2 = .raw v2) (h0 : Nat.beq u 0 = false) (h01 : Nat.beq u 1 = false) (h1 : lk .gone m 0 = .box T [.ref 0 0, .own u]) (h2 : lk .gone m 1 = .gone) (h4 : lk .gone m u = .row wd e2 rows)
    (hp : Post [.one (.c (.raw v)), .one (.c (.raw v2))] [.box T [.ref 0 0, .own 2], .gone, .row wd e2 rows]) : RetG P [.tmp t, .tmp t2] 2 Post e l m n :=
  retg_mk he [_, _] [.box T [.ref 0 0, .own 2], .gone, .row wd e2 rows] [0, 1, u] hp (by simp) (nodup01 h0 h01) rfl rfl rfl ⟨h, h5, trivial⟩ ⟨h1, h2, h4, trivial⟩
end
end Go.Proofs.YtfoecgfboicphaaGreatDoor
/-
  Sessions: what the builder's writing methods do.
-/
namespace Go.Proofs.YtfoecgfboicphaaGreatDoor
open Go.RowKit
set_option linter.unusedVariables false
set_option linter.unusedSimpArgs false
attribute [local irreducible] AL AW OpX Le AD

abbrev bytO (bs : List UInt8) : OB := .row 1 5 (byRs bs)
abbrev usdB (u : Nat) : OB := .box 47 [.ref 0 0, .own u]
abbrev nvrB (u : Nat) : OB := .box 47 [.c (.raw (.pointer none)), .own u]
abbrev ChkP (bs : List UInt8) (rs : List AR) (all : List OB) : Prop := rs = [] ∧ all = [usdB 1, bytO bs]
theorem c_chkN (bs : List UInt8) : Con Tryz.prog 41 [.one (.ref 0 0)] [nvrB 1, bytO bs] (ChkP bs) := by
  refine con_of_aw (vars := []) [(0, .ref 0 0)] [(0, nvrB 1), (1, bytO bs)] 2 Tryz.func41 (by kernel_rfl) rfl Tryz.ntmps41 rfl (by decide) rfl rfl rfl rfl rfl ?_; intro B M w0 ρ0 Z0
  repeat' (first | (refine is_al ?_; (first | (refine is_move ?_; refine al_v (opx_move (.ref _ _)) ⟨rfl, trivial⟩ trivial rfl ?_) | (refine is_load ?_; refine al_v (opx_ld_box rfl) ⟨rfl, trivial⟩ ⟨rfl, trivial⟩ rfl ?_) | (refine is_fa ?_; refine al_v opx_fa_ref ⟨rfl, trivial⟩ trivial rfl ?_) | (refine is_st ?_; refine al_s (opx_st1_box (by rfl)) ⟨rfl, rfl, trivial⟩ ⟨rfl, trivial⟩ ?_) | refine al_v opx_nilck ⟨rfl, trivial⟩ trivial rfl ?_ | refine al_nil ?_ | refine al_v (opx_ptrNilT (T := 47) (by kernel_rfl)) ⟨rfl, rfl, trivial⟩ trivial rfl ?_ | refine al_v (opx_toUnsafe (t := 45) (T := 47) (by kernel_rfl) (by kernel_rfl) (by kernel_rfl) (by decide)) ⟨rfl, trivial⟩ ⟨rfl, trivial⟩ rfl ?_ | refine al_v (opx_noEsc Tryz.func63 (by kernel_rfl) (by kernel_rfl) (by kernel_rfl) (by kernel_rfl)) ⟨rfl, trivial⟩ trivial rfl ?_ | refine al_v (opx_fromUnsafe (t := 98) (T := 47) (by kernel_rfl) (by kernel_rfl) (by kernel_rfl) (by kernel_rfl)) ⟨rfl, trivial⟩ ⟨rfl, trivial⟩ rfl ?_)) | (refine is_ad ?_; (first | refine al_v (opx_ptrNilT (T := 47) (by kernel_rfl)) ⟨rfl, rfl, trivial⟩ trivial rfl ?_ | refine al_v (opx_toUnsafe (t := 45) (T := 47) (by kernel_rfl) (by kernel_rfl) (by kernel_rfl) (by decide)) ⟨rfl, trivial⟩ ⟨rfl, trivial⟩ rfl ?_ | refine al_v (opx_noEsc Tryz.func63 (by kernel_rfl) (by kernel_rfl) (by kernel_rfl) (by kernel_rfl)) ⟨rfl, trivial⟩ trivial rfl ?_ | refine al_v (opx_fromUnsafe (t := 98) (T := 47) (by kernel_rfl) (by kernel_rfl) (by kernel_rfl) (by kernel_rfl)) ⟨rfl, trivial⟩ ⟨rfl, trivial⟩ rfl ?_)) | (refine is_aw ?_; (first | refine aw_seq ?_ | refine aw_region ?_ | (refine is_cond ?_; refine aw_cond_t rfl rfl ?_))))
  exact retb_none trivial rfl rfl ⟨rfl, rfl⟩
theorem c_chkU (bs : List UInt8) : Con Tryz.prog 41 [.one (.ref 0 0)] [usdB 1, bytO bs] (ChkP bs) := by
  refine con_of_aw (vars := []) [(0, .ref 0 0)] [(0, usdB 1), (1, bytO bs)] 2 Tryz.func41 (by kernel_rfl) rfl Tryz.ntmps41 rfl (by decide) rfl rfl rfl rfl rfl ?_; intro B M w0 ρ0 Z0
  repeat' (first | (refine is_al ?_; (first | (refine is_move ?_; refine al_v (opx_move (.ref _ _)) ⟨rfl, trivial⟩ trivial rfl ?_) | (refine is_load ?_; refine al_v (opx_ld_box rfl) ⟨rfl, trivial⟩ ⟨rfl, trivial⟩ rfl ?_) | (refine is_fa ?_; refine al_v opx_fa_ref ⟨rfl, trivial⟩ trivial rfl ?_) | refine al_v opx_nilck ⟨rfl, trivial⟩ trivial rfl ?_ | refine al_nil ?_ | refine al_v (opx_ptrNilF (T := 47) (by kernel_rfl)) ⟨rfl, rfl, trivial⟩ trivial rfl ?_ | refine al_v (opx_ptrSame (T := 47) (by kernel_rfl) (by kernel_rfl)) ⟨rfl, rfl, trivial⟩ trivial rfl ?_)) | (refine is_ad ?_; (first | refine al_v (opx_ptrNilF (T := 47) (by kernel_rfl)) ⟨rfl, rfl, trivial⟩ trivial rfl ?_ | refine al_v (opx_ptrSame (T := 47) (by kernel_rfl) (by kernel_rfl)) ⟨rfl, rfl, trivial⟩ trivial rfl ?_)) | (refine is_aw ?_; (first | refine aw_seq ?_ | refine aw_region ?_ | refine aw_skip ?_ | (refine is_cond ?_; refine aw_cond_f rfl rfl ?_))))
  exact retb_none trivial rfl rfl ⟨rfl, rfl⟩
abbrev WrsP (bs s : List UInt8) (rs : List AR) (all : List OB) : Prop := rs = [rI (s.length : Int), .one (.c (.raw .nilIface))] ∧ all = [usdB 2, .gone, bytO (bs ++ s)]
theorem c_wrsN (bs s : List UInt8) (hl : bs.length + s.length ≤ 100000000000) : Con Tryz.prog 26 [.one (.ref 0 0), rStr s] [nvrB 1, bytO bs] (WrsP bs s) := by
  refine con_of_aw (vars := [.tmp 4, .tmp 5]) [(0, .ref 0 0), (1, .r (rStr s))] [(0, nvrB 1), (1, bytO bs)] 2 Tryz.func26 (by kernel_rfl) rfl Tryz.ntmps26 rfl (by decide) rfl rfl rfl rfl rfl ?_; intro B M w0 ρ0 Z0
  repeat' (first | (refine is_al ?_; (first | (refine is_move ?_; (first | refine al_v (opx_move (.raw _)) ⟨rfl, trivial⟩ trivial rfl ?_ | refine al_v (opx_move (.ref _ _)) ⟨rfl, trivial⟩ trivial rfl ?_)) | (refine is_load ?_; refine al_v (opx_ld_box rfl) ⟨rfl, trivial⟩ ⟨rfl, trivial⟩ rfl ?_) | (refine is_fa ?_; refine al_v opx_fa_ref ⟨rfl, trivial⟩ trivial rfl ?_) | (refine is_assign ?_; refine al_v (opx_assign (.raw _)) ⟨rfl, trivial⟩ trivial rfl ?_) | (refine is_bi ?_; refine al_v opx_len_str ⟨rfl, trivial⟩ trivial rfl ?_) | (refine is_call ?_; refine al_chkN 0 1 rfl rfl rfl rfl rfl (by (repeat (first | exact .nil | refine .one rfl rfl ?_ | refine .tag rfl ?_ | refine .froz rfl rfl ?_ | refine .rnil rfl ?_ | refine .agg rfl (by (repeat (first | exact .nil | refine .cons (.same rfl) ?_ | refine .cons (.froz rfl) ?_ | refine .cons (.rnil) ?_)); (first | done | fail)) ?_)); (first | done | fail)) rfl (c_chkN bs) ?_) | (refine is_st ?_; refine al_s (opx_st1_box (by rfl)) ⟨rfl, rfl, trivial⟩ ⟨rfl, trivial⟩ ?_) | refine al_v opx_nilck ⟨rfl, trivial⟩ trivial rfl ?_ | refine al_nil ?_ | refine al_n (opx_appStr (by kernel_rfl) (by kernel_rfl) rfl (by omega)) ⟨rfl, rfl, trivial⟩ ⟨rfl, trivial⟩ rfl ?_)) | (refine is_ad ?_; refine al_n (opx_appStr (by kernel_rfl) (by kernel_rfl) rfl (by omega)) ⟨rfl, rfl, trivial⟩ ⟨rfl, trivial⟩ rfl ?_) | (refine is_aw ?_; (first | refine aw_seq ?_ | refine aw_region ?_ | refine aw_ret ?_)))
  exact retb_raw2 trivial rfl rfl rfl rfl rfl rfl rfl ⟨rfl, rfl⟩
theorem c_wrsU (bs s : List UInt8) (hl : bs.length + s.length ≤ 100000000000) : Con Tryz.prog 26 [.one (.ref 0 0), rStr s] [usdB 1, bytO bs] (WrsP bs s) := by
  refine con_of_aw (vars := [.tmp 4, .tmp 5]) [(0, .ref 0 0), (1, .r (rStr s))] [(0, usdB 1), (1, bytO bs)] 2 Tryz.func26 (by kernel_rfl) rfl Tryz.ntmps26 rfl (by decide) rfl rfl rfl rfl rfl ?_; intro B M w0 ρ0 Z0
  repeat' (first | (refine is_al ?_; (first | (refine is_move ?_; (first | refine al_v (opx_move (.raw _)) ⟨rfl, trivial⟩ trivial rfl ?_ | refine al_v (opx_move (.ref _ _)) ⟨rfl, trivial⟩ trivial rfl ?_)) | (refine is_load ?_; refine al_v (opx_ld_box rfl) ⟨rfl, trivial⟩ ⟨rfl, trivial⟩ rfl ?_) | (refine is_fa ?_; refine al_v opx_fa_ref ⟨rfl, trivial⟩ trivial rfl ?_) | (refine is_assign ?_; refine al_v (opx_assign (.raw _)) ⟨rfl, trivial⟩ trivial rfl ?_) | (refine is_bi ?_; refine al_v opx_len_str ⟨rfl, trivial⟩ trivial rfl ?_) | (refine is_call ?_; refine al_chkU 0 1 rfl rfl rfl rfl rfl (by (repeat (first | exact .nil | refine .one rfl rfl ?_ | refine .tag rfl ?_ | refine .froz rfl rfl ?_ | refine .rnil rfl ?_ | refine .agg rfl (by (repeat (first | exact .nil | refine .cons (.same rfl) ?_ | refine .cons (.froz rfl) ?_ | refine .cons (.rnil) ?_)); (first | done | fail)) ?_)); (first | done | fail)) rfl (c_chkU bs) ?_) | (refine is_st ?_; refine al_s (opx_st1_box (by rfl)) ⟨rfl, rfl, trivial⟩ ⟨rfl, trivial⟩ ?_) | refine al_v opx_nilck ⟨rfl, trivial⟩ trivial rfl ?_ | refine al_nil ?_ | refine al_n (opx_appStr (by kernel_rfl) (by kernel_rfl) rfl (by omega)) ⟨rfl, rfl, trivial⟩ ⟨rfl, trivial⟩ rfl ?_)) | (refine is_ad ?_; refine al_n (opx_appStr (by kernel_rfl) (by kernel_rfl) rfl (by omega)) ⟨rfl, rfl, trivial⟩ ⟨rfl, trivial⟩ rfl ?_) | (refine is_aw ?_; (first | refine aw_seq ?_ | refine aw_region ?_ | refine aw_ret ?_)))
  exact retb_raw2 trivial rfl rfl rfl rfl rfl rfl rfl ⟨rfl, rfl⟩
theorem c_WriteString (bs s : List UInt8) (hl : bs.length + s.length ≤ 100000000000) : Con Tryz.prog 26 [.one (.ref 0 0), rStr s] [bldO 47 1, bytO bs] (WrsP bs s) :=
  con_bld (c_wrsN bs s hl) (c_wrsU bs s hl)
theorem c_WriteByte (bs : List UInt8) (c : UInt8) (hl : bs.length ≤ 1000000000) : Con Tryz.prog 27 [.one (.ref 0 0), .one (.c (.raw (.int .u8 c.toNat)))] [usdB 1, bytO bs] (fun rs all => rs = [.one (.c (.raw .nilIface))] ∧ all = [usdB 2, .gone, bytO (bs ++ [c])]) := by
  refine con_of_aw (vars := [.tmp 4]) [(0, .ref 0 0), (1, .raw (.int .u8 c.toNat))] [(0, usdB 1), (1, bytO bs)] 2 Tryz.func27 (by kernel_rfl) rfl Tryz.ntmps27 rfl (by decide) rfl rfl rfl rfl rfl ?_; intro B M w0 ρ0 Z0
  repeat' (first | (refine is_al ?_; (first | (refine is_move ?_; (first | refine al_v (opx_move (.raw _)) ⟨rfl, trivial⟩ trivial rfl ?_ | refine al_v (opx_move (.ref _ _)) ⟨rfl, trivial⟩ trivial rfl ?_)) | (refine is_load ?_; refine al_v (opx_ld_box rfl) ⟨rfl, trivial⟩ ⟨rfl, trivial⟩ rfl ?_) | (refine is_fa ?_; refine al_v opx_fa_ref ⟨rfl, trivial⟩ trivial rfl ?_) | (refine is_assign ?_; refine al_v (opx_assign (.raw _)) ⟨rfl, trivial⟩ trivial rfl ?_) | (refine is_call ?_; refine al_chkU 0 1 rfl rfl rfl rfl rfl (by (repeat (first | exact .nil | refine .one rfl rfl ?_ | refine .tag rfl ?_ | refine .froz rfl rfl ?_ | refine .rnil rfl ?_ | refine .agg rfl (by (repeat (first | exact .nil | refine .cons (.same rfl) ?_ | refine .cons (.froz rfl) ?_ | refine .cons (.rnil) ?_)); (first | done | fail)) ?_)); (first | done | fail)) rfl (c_chkU bs) ?_) | (refine is_st ?_; refine al_s (opx_st1_box (by rfl)) ⟨rfl, rfl, trivial⟩ ⟨rfl, trivial⟩ ?_) | refine al_v opx_nilck ⟨rfl, trivial⟩ trivial rfl ?_ | (refine is_bs ?_; refine al_pushB ⟨rfl, trivial⟩ rfl rfl rfl rfl rfl (by omega) ?_) | refine al_nil ?_)) | (refine is_aw ?_; (first | refine aw_seq ?_ | refine aw_region ?_ | refine aw_ret ?_)))
  exact retb_raw trivial rfl rfl rfl rfl rfl rfl ⟨rfl, rfl⟩
end Go.Proofs.YtfoecgfboicphaaGreatDoor
/-
  Put points and merged series: the draws, the laws.
-/
namespace Go.Proofs.YtfoecgfboicphaaGreatDoor
open Go.RowKit
set_option linter.unusedVariables false
set_option linter.unusedSimpArgs false
attribute [local irreducible] AL AW OpX Le AD

end Go.Proofs.YtfoecgfboicphaaGreatDoor
/-
  Put points: the draws, the laws; merged series have all times.
-/
namespace Go.Proofs.YtfoecgfboicphaaGreatDoor
open Go.RowKit
set_option linter.unusedVariables false
set_option linter.unusedSimpArgs false
attribute [local irreducible] AL AW OpX Le AD

theorem c_sPutPoint (ps : List Pt) (t v : Int) (hL : ps.length ≤ 100000000) : Con Tryz.prog 66 [slP ps, ptA t v] [] (fun rs all => rs = [.one (.own 0), rB (putB ps t v)] ∧ all = [.row 2 66 (ptRs (putR ps t v))]) := by
  have hlen := ptRs_len (ps := ps)
  have hlen2 := ptRs_len (ps := put ps (t, v))
  refine con_of_aw (vars := [.tmp 4, .tmp 5]) [(0, .r (slP ps)), (1, .r (ptA t v))] [] 0 Tryz.func66 (by kernel_rfl) rfl Tryz.ntmps66 rfl (by decide) rfl rfl rfl rfl rfl ?_; intro B M w0 ρ0 Z0
  by_cases hv : VS ps
  · have hvb := vsB_t hv
    have hvn : (!vsB ps) = false := by rw [hvb]; rfl
    by_cases hp : ptOk t v = true
    · have hpn : (!ptOk t v) = false := by rw [hp]; rfl
      by_cases hl : (put ps (t, v)).length ≤ 16
      · have hd : decide (16 < ((ptRs (put ps (t, v))).length : Int)) = false := decide_eq_false (by omega)
        have e : putB ps t v = true := by rw [putB, hvb, hp, decide_eq_true hl]; rfl
        repeat' (first | (refine is_al ?_; (first | (refine is_gd ?_; refine al_on rfl rfl rfl (by assumption) ?_) | (refine is_move ?_; (first | refine al_v (opx_move (.raw _)) ⟨rfl, trivial⟩ trivial rfl ?_ | refine al_v (opx_move (.sl _ _)) ⟨rfl, trivial⟩ trivial rfl ?_)) | (refine is_bin ?_; refine al_v opx_gtr ⟨rfl, rfl, trivial⟩ trivial rfl ?_) | (refine is_load ?_; refine al_v opx_ld2_box ⟨rfl, trivial⟩ ⟨rfl, trivial⟩ rfl ?_) | (refine is_assign ?_; (first | refine al_v (opx_assign (.raw _)) ⟨rfl, trivial⟩ trivial rfl ?_ | refine al_v (opx_assign (.own _)) ⟨rfl, trivial⟩ trivial rfl ?_)) | (refine is_pick ?_; refine al_v (opx_pick_f (.raw _) (by assumption)) ⟨rfl, rfl, trivial⟩ trivial rfl ?_) | (refine is_bi ?_; refine al_v opx_len_own ⟨rfl, trivial⟩ ⟨rfl, trivial⟩ rfl ?_) | (refine is_call ?_; (first | refine al_callv2 (by (repeat (first | exact .nil | refine .one rfl rfl ?_ | refine .froz rfl rfl ?_ | refine .row rfl rfl ?_ | refine .rnil rfl ?_ | refine .agg rfl (by (repeat (first | exact .nil | refine .cons (.same rfl) ?_ | refine .cons (.froz rfl) ?_ | refine .cons (.rnil) ?_ | refine .cons (.row rfl rfl) ?_)); (first | done | fail)) ?_)); (first | done | fail)) rfl (c_sValidSeries _ (by omega)) rfl ?_ | refine al_callv2 (by (repeat (first | exact .nil | refine .one rfl rfl ?_ | refine .froz rfl rfl ?_ | refine .row rfl rfl ?_ | refine .rnil rfl ?_ | refine .agg rfl (by (repeat (first | exact .nil | refine .cons (.same rfl) ?_ | refine .cons (.froz rfl) ?_ | refine .cons (.rnil) ?_ | refine .cons (.row rfl rfl) ?_)); (first | done | fail)) ?_)); (first | done | fail)) rfl (c_sValidPoint _ _) rfl ?_ | refine al_callr2 (by (repeat (first | exact .nil | refine .one rfl rfl ?_ | refine .froz rfl rfl ?_ | refine .rnil rfl ?_ | refine .agg rfl (by (repeat (first | exact .nil | refine .cons (.same rfl) ?_ | refine .cons (.froz rfl) ?_ | refine .cons (.rnil) ?_)); (first | done | fail)) ?_)); (first | done | fail)) rfl (c_sPut _ _ _ (by omega)) ?_)) | refine al_v opx_not ⟨rfl, trivial⟩ trivial rfl ?_ | refine al_n opx_boxs ⟨rfl, trivial⟩ trivial rfl ?_ | refine al_nil ?_)) | (refine is_aw ?_; (first | refine aw_seq ?_ | refine aw_region ?_ | refine aw_skip ?_ | refine aw_ret ?_ | (refine is_cond ?_; refine aw_cond_f rfl (by assumption) ?_))))
        exact ret_row_raw trivial rfl rfl rfl ⟨by rw [e], by rw [putR, if_pos e]⟩
      · have hd : decide (16 < ((ptRs (put ps (t, v))).length : Int)) = true := decide_eq_true (by omega)
        have e : putB ps t v = false := by rw [putB, hvb, hp, decide_eq_false hl]; rfl
        repeat' (first | (refine is_al ?_; (first | (refine is_gd ?_; refine al_on rfl rfl rfl (by assumption) ?_) | (refine is_move ?_; (first | refine al_v (opx_move (.raw _)) ⟨rfl, trivial⟩ trivial rfl ?_ | refine al_v (opx_move (.sl _ _)) ⟨rfl, trivial⟩ trivial rfl ?_)) | (refine is_bin ?_; refine al_v opx_gtr ⟨rfl, rfl, trivial⟩ trivial rfl ?_) | (refine is_load ?_; refine al_v opx_ld2_box ⟨rfl, trivial⟩ ⟨rfl, trivial⟩ rfl ?_) | (refine is_assign ?_; refine al_v (opx_assign (.raw _)) ⟨rfl, trivial⟩ trivial rfl ?_) | (refine is_pick ?_; refine al_v (opx_pick_f (.raw _) (by assumption)) ⟨rfl, rfl, trivial⟩ trivial rfl ?_) | (refine is_bi ?_; refine al_v opx_len_own ⟨rfl, trivial⟩ ⟨rfl, trivial⟩ rfl ?_) | (refine is_call ?_; (first | refine al_callv2 (by (repeat (first | exact .nil | refine .one rfl rfl ?_ | refine .froz rfl rfl ?_ | refine .row rfl rfl ?_ | refine .rnil rfl ?_ | refine .agg rfl (by (repeat (first | exact .nil | refine .cons (.same rfl) ?_ | refine .cons (.froz rfl) ?_ | refine .cons (.rnil) ?_ | refine .cons (.row rfl rfl) ?_)); (first | done | fail)) ?_)); (first | done | fail)) rfl (c_sValidSeries _ (by omega)) rfl ?_ | refine al_callv2 (by (repeat (first | exact .nil | refine .one rfl rfl ?_ | refine .froz rfl rfl ?_ | refine .row rfl rfl ?_ | refine .rnil rfl ?_ | refine .agg rfl (by (repeat (first | exact .nil | refine .cons (.same rfl) ?_ | refine .cons (.froz rfl) ?_ | refine .cons (.rnil) ?_ | refine .cons (.row rfl rfl) ?_)); (first | done | fail)) ?_)); (first | done | fail)) rfl (c_sValidPoint _ _) rfl ?_ | refine al_callr2 (by (repeat (first | exact .nil | refine .one rfl rfl ?_ | refine .froz rfl rfl ?_ | refine .rnil rfl ?_ | refine .agg rfl (by (repeat (first | exact .nil | refine .cons (.same rfl) ?_ | refine .cons (.froz rfl) ?_ | refine .cons (.rnil) ?_)); (first | done | fail)) ?_)); (first | done | fail)) rfl (c_sPut _ _ _ (by omega)) ?_)) | refine al_v opx_not ⟨rfl, trivial⟩ trivial rfl ?_ | refine al_n opx_boxs ⟨rfl, trivial⟩ trivial rfl ?_ | refine al_nil ?_)) | (refine is_aw ?_; (first | refine aw_seq ?_ | refine aw_region ?_ | (refine is_cond ?_; refine aw_cond_t rfl (by assumption) ?_))) | refine thn_n ?_)
        refine aw_le (le_ownNil 4 2 66 rfl) ?_
        repeat' (first | (refine is_aw ?_; refine aw_ret ?_) | refine thn_r ?_)
        exact ret_row_raw trivial rfl rfl rfl ⟨by rw [e], by rw [putR, e]; rfl⟩
    · have hpf : ptOk t v = false := by simpa using hp
      have hpn : (!ptOk t v) = true := by rw [hpf]; rfl
      have e : putB ps t v = false := by rw [putB, hvb, hpf]; rfl
      repeat' (first | (refine is_al ?_; (first | (refine is_gd ?_; (first | refine al_on rfl rfl rfl (by assumption) ?_ | refine al_off rfl rfl rfl (by assumption) rfl ?_)) | (refine is_move ?_; (first | refine al_v (opx_move (.raw _)) ⟨rfl, trivial⟩ trivial rfl ?_ | refine al_v (opx_move (.sl _ _)) ⟨rfl, trivial⟩ trivial rfl ?_)) | (refine is_load ?_; refine al_v opx_ld2_box ⟨rfl, trivial⟩ ⟨rfl, trivial⟩ rfl ?_) | (refine is_assign ?_; refine al_v (opx_assign (.raw _)) ⟨rfl, trivial⟩ trivial rfl ?_) | (refine is_pick ?_; (first | refine al_v (opx_pick_t (.raw _) (by assumption)) ⟨rfl, rfl, trivial⟩ trivial rfl ?_ | refine al_v (opx_pick_f (.raw _) (by assumption)) ⟨rfl, rfl, trivial⟩ trivial rfl ?_)) | (refine is_call ?_; (first | refine al_callv2 (by (repeat (first | exact .nil | refine .one rfl rfl ?_ | refine .froz rfl rfl ?_ | refine .row rfl rfl ?_ | refine .rnil rfl ?_ | refine .agg rfl (by (repeat (first | exact .nil | refine .cons (.same rfl) ?_ | refine .cons (.froz rfl) ?_ | refine .cons (.rnil) ?_ | refine .cons (.row rfl rfl) ?_)); (first | done | fail)) ?_)); (first | done | fail)) rfl (c_sValidSeries _ (by omega)) rfl ?_ | refine al_callv2 (by (repeat (first | exact .nil | refine .one rfl rfl ?_ | refine .froz rfl rfl ?_ | refine .row rfl rfl ?_ | refine .rnil rfl ?_ | refine .agg rfl (by (repeat (first | exact .nil | refine .cons (.same rfl) ?_ | refine .cons (.froz rfl) ?_ | refine .cons (.rnil) ?_ | refine .cons (.row rfl rfl) ?_)); (first | done | fail)) ?_)); (first | done | fail)) rfl (c_sValidPoint _ _) rfl ?_)) | refine al_v opx_not ⟨rfl, trivial⟩ trivial rfl ?_ | refine al_n opx_boxs ⟨rfl, trivial⟩ trivial rfl ?_ | refine al_nil ?_)) | (refine is_aw ?_; (first | refine aw_seq ?_ | refine aw_region ?_ | (refine is_cond ?_; refine aw_cond_t rfl rfl ?_))) | refine thn_n ?_)
      refine aw_le (le_ownNil 4 2 66 rfl) ?_
      repeat' (first | (refine is_aw ?_; refine aw_ret ?_) | refine thn_r ?_)
      exact ret_row_raw trivial rfl rfl rfl ⟨by rw [e], by rw [putR, e]; rfl⟩
  · have hvb := vsB_f hv
    have hvn : (!vsB ps) = true := by rw [hvb]; rfl
    have e : putB ps t v = false := by rw [putB, hvb]; rfl
    repeat' (first | (refine is_al ?_; (first | (refine is_gd ?_; (first | refine al_off rfl rfl rfl (by assumption) rfl ?_ | (refine al_g rfl rfl rfl rfl ?_ ?_ <;> ((intro hgd; try exact absurd hgd (by decide)); (try (have hz := hgd; simp only [decide_eq_true_eq, decide_eq_false_iff_not, Bool.not_eq_true', Bool.not_eq_false', Bool.not_true, Bool.not_false, beq_iff_eq, Int.not_le, Int.not_lt] at hz)); (try (exfalso; omega)))))) | (refine is_move ?_; (first | refine al_v (opx_move (.raw _)) ⟨rfl, trivial⟩ trivial rfl ?_ | refine al_v (opx_move (.sl _ _)) ⟨rfl, trivial⟩ trivial rfl ?_)) | (refine is_assign ?_; refine al_v (opx_assign (.raw _)) ⟨rfl, trivial⟩ trivial rfl ?_) | (refine is_pick ?_; (first | refine al_v (opx_pick_t (.raw _) rfl) ⟨rfl, rfl, trivial⟩ trivial rfl ?_ | refine al_v (opx_pick_t (.raw _) (by assumption)) ⟨rfl, rfl, trivial⟩ trivial rfl ?_)) | (refine is_call ?_; refine al_callv2 (by (repeat (first | exact .nil | refine .one rfl rfl ?_ | refine .froz rfl rfl ?_ | refine .row rfl rfl ?_ | refine .rnil rfl ?_ | refine .agg rfl (by (repeat (first | exact .nil | refine .cons (.same rfl) ?_ | refine .cons (.froz rfl) ?_ | refine .cons (.rnil) ?_ | refine .cons (.row rfl rfl) ?_)); (first | done | fail)) ?_)); (first | done | fail)) rfl (c_sValidSeries _ (by omega)) rfl ?_) | refine al_v opx_not ⟨rfl, trivial⟩ trivial rfl ?_ | refine al_n opx_boxs ⟨rfl, trivial⟩ trivial rfl ?_ | refine al_nil ?_)) | (refine is_aw ?_; (first | refine aw_seq ?_ | refine aw_region ?_ | (refine is_cond ?_; refine aw_cond_t rfl rfl ?_))) | refine thn_n ?_)
    refine aw_le (le_ownNil 4 2 66 rfl) ?_
    repeat' (first | (refine is_aw ?_; refine aw_ret ?_) | refine thn_r ?_)
    exact ret_row_raw trivial rfl rfl rfl ⟨by rw [e], by rw [putR, e]; rfl⟩
theorem c_sPutPoint' (ps : List Pt) (t v : Int) (hL : ps.length ≤ 100000000) : Con Tryz.prog 66 [slP ps, ptA t v] [] (fun rs all => rs = [slP (putR ps t v), rB (putB ps t v)] ∧ all = []) :=
  (c_sPutPoint ps t v hL).froz fun rs all ⟨h1, h2⟩ => by subst h1 h2; exact ⟨⟨rfl, rfl⟩, rfl⟩

theorem putB_of {ps : List Pt} {t v : Int} (h : putB ps t v = true) : VS ps ∧ okPt (t, v) ∧ putR ps t v = put ps (t, v) ∧ VS (put ps (t, v)) := by
  have h' := h
  rw [putB, Bool.and_eq_true, Bool.and_eq_true] at h'
  have h1 := vsB_iff.1 h'.1
  have h2 := ptOk_iff.1 h'.2.1
  have h3 : (put ps (t, v)).length ≤ 16 := by simpa using h'.2.2
  exact ⟨h1, h2, by rw [putR, if_pos h], VS_put h1 h2 h3⟩
theorem putB_to {ps : List Pt} {t v : Int} (h1 : VS ps) (h2 : okPt (t, v)) (h3 : (put ps (t, v)).length ≤ 16) : putB ps t v = true ∧ putR ps t v = put ps (t, v) := by
  have h : putB ps t v = true := by rw [putB, vsB_t h1, ptOk_iff.2 h2, decide_eq_true h3]; rfl
  exact ⟨h, by rw [putR, if_pos h]⟩
end Go.Proofs.YtfoecgfboicphaaGreatDoor
/-
  Sessions: the program's walk.
-/
namespace Go.Proofs.YtfoecgfboicphaaGreatDoor
open Go.RowKit
set_option linter.unusedVariables false
set_option linter.unusedSimpArgs false
attribute [local irreducible] AL AW OpX Le AD

theorem atA_len {s : Ss} {a b : Str} : (atA s a b).length ≤ 3000000 := by
  unfold atA
  have h := vat_in (ps := fndP s a) (t := numN b)
  have h2 := itoa_len (n := vatI (fndP s a) (numN b)) (by omega)
  split
  · omega
  · decide
theorem sumA_len {s : Ss} {a b c : Str} : (sumA s a b c).length ≤ 3000000 := by
  unfold sumA
  have hV := rngR_VS (ps := fndP s a) (lo := numN b) (hi := numN c)
  have hb6 := sumV_part hV 16
  rw [List.take_of_length_le hV.1] at hb6
  have h2 := itoa_len (n := sumV (rngR (fndP s a) (numN b) (numN c))) (by omega)
  split
  · omega
  · decide
theorem cnA_len {s : Ss} (h : okSs s) : (cnA s).length ≤ 3000000 := by
  have h1 := cntV_part h s.2.length
  rw [List.take_length] at h1
  have h2 := h.cat.1
  have l1 := itoa_len (n := (s.1.length : Int)) (by omega)
  have l2 := itoa_len (n := (cntV s.2 : Int)) (by omega)
  unfold cnA
  simp only [List.length_append, List.length_cons, List.length_nil]
  omega
theorem putT_len {s : Ss} {r : Str} {sp : Bool} : (putT s r sp).length ≤ 3000000 := by
  unfold putT
  split
  · split <;> decide
  · decide
theorem atT_len {s : Ss} {r : Str} {sp : Bool} : (atT s r sp).length ≤ 3000000 := by
  unfold atT
  split
  · split
    · exact atA_len
    · decide
  · decide
theorem sumT_len {s : Ss} {r : Str} {sp : Bool} : (sumT s r sp).length ≤ 3000000 := by
  unfold sumT
  split
  · split
    · exact sumA_len
    · decide
  · decide
theorem cntT_len {s : Ss} {sp : Bool} (h : okSs s) : (cntT s sp).length ≤ 3000000 := by
  unfold cntT
  split
  · decide
  · exact cnA_len h
theorem comT_len {s : Ss} {n r : Str} {sp : Bool} (h : okSs s) : (comT s n r sp).length ≤ 3000000 := by
  unfold comT
  split
  · exact putT_len
  · split
    · exact atT_len
    · split
      · exact sumT_len
      · split
        · exact cntT_len h
        · decide
theorem putVS (ps : List Pt) (t v : Int) (h : putB ps t v = true) : VS (putR ps t v) := by
  obtain ⟨_, _, h3, h4⟩ := putB_of h
  rw [h3]; exact h4
theorem comS_ok {s : Ss} {n r : Str} {sp : Bool} (h : okSs s) : okSs (comS s n r sp) := by
  unfold comS
  split
  · exact putS_ok h putVS
  · exact h
theorem runS_ok : ∀ {ls : List Str} {s : Ss}, okSs s → okSs (runS s ls)
  | [], _, h => h
  | l :: ls, s, h => runS_ok (ls := ls) (comS_ok h)
theorem runA_len : ∀ {ls : List Str} {s : Ss}, okSs s → (runA s ls).length ≤ 3000001 * ls.length
  | [], _, h => by simp [runA]
  | l :: ls, s, h => by
    have h1 := runA_len (ls := ls) (s := lnS s l) (comS_ok h)
    have h2 : (lnA s l).length ≤ 3000000 := comT_len h
    rw [runA, List.length_append, List.length_cons, List.length_cons]
    omega
theorem c_CutL (ln : Str) (hl : ln.length ≤ 2000000) : Con Tryz.prog 25 [rStr ln, rStr [32]] [] (fun rs all => rs = [rStr (cutN ln), rStr (cutR ln), rB (cutB ln)] ∧ all = []) := by
  by_cases h : (32 : UInt8) ∈ ln
  · obtain ⟨x, r, rfl, hx⟩ := cut_at h
    obtain ⟨e1, e2, e3⟩ := cut_some (r := r) hx
    rw [e1, e2, e3]
    have : (x ++ 32 :: r).length = x.length + (r.length + 1) := by rw [List.length_append, List.length_cons]
    exact c_Cut_t x r 32 hx (by omega)
  · obtain ⟨e1, e2, e3⟩ := cut_none h
    rw [e1, e2, e3]
    exact c_Cut_f ln 32 h
theorem cutR_len {ln : Str} : (cutR ln).length ≤ ln.length := by
  unfold cutR
  split
  · rw [List.length_drop]; omega
  · exact Nat.zero_le _
instance mftS : MfT Tryz.prog 44 9 43 := ⟨by kernel_rfl, by kernel_rfl, fun w => Tryz.zeroValue43 w⟩
def keysS : List Str := [tPut, tAt, tSum, tCount]
def fnsS (t : Nat) : List A1 := [.fn 21 (some (t, 0)) [], .fn 22 (some (t, 0)) [], .fn 23 (some (t, 0)) [], .fn 24 (some (t, 0)) []]
theorem take20 {ls : List Str} : ((stRs ls).take (min ls.length 20)).drop 0 = stRs (ls.take 20) := by
  rw [List.drop_zero, stRs, stRs, List.map_take]
  rcases Nat.le_total ls.length 20 with h | h
  · rw [Nat.min_eq_left h, List.take_of_length_le (by simp), List.take_of_length_le (by simpa using h)]
  · rw [Nat.min_eq_right h]
theorem c_RunSession (ls : List Str) (hL : ∀ l ∈ ls, l.length ≤ 2000000) (hn : ls.length ≤ 1000000000) : Con Tryz.prog 9 [slS ls] [] (fun rs all => rs = [rStr (runA ([], []) (ls.take 20))] ∧ all = []) := by
  have hls := stRs_len (xs := ls)
  refine con_of_aw (vars := [.tmp 2]) [(0, .r (slS ls))] [] 0 Tryz.func9 (by kernel_rfl) rfl Tryz.ntmps9 rfl (by decide) rfl rfl rfl rfl rfl ?_; intro B M w0 ρ0 Z0
  repeat' (first | (refine is_al ?_; (first | (refine is_move ?_; (first | refine al_v (opx_move (.raw _)) ⟨rfl, trivial⟩ trivial rfl ?_ | refine al_v (opx_move (.sl _ _)) ⟨rfl, trivial⟩ trivial rfl ?_ | refine al_v (opx_move (.own _)) ⟨rfl, trivial⟩ trivial rfl ?_)) | (refine is_assign ?_; (first | refine al_v (opx_assign (.raw _)) ⟨rfl, trivial⟩ trivial rfl ?_ | refine al_v (opx_assign (.own _)) ⟨rfl, trivial⟩ trivial rfl ?_)) | (refine is_bi ?_; (first | refine al_v opx_len_sl ⟨rfl, trivial⟩ trivial rfl ?_ | refine al_v opx_min2 ⟨rfl, rfl, trivial⟩ trivial rfl ?_)) | refine al_n opx_alloc trivial trivial rfl ?_ | refine al_nil ?_ | refine al_n opx_mkMapF trivial trivial rfl ?_ | refine al_v opx_mkfnR ⟨rfl, trivial⟩ trivial rfl ?_ | refine al_s (opx_insF rfl (by decide) rfl rfl) ⟨rfl, rfl, rfl, trivial⟩ ⟨rfl, trivial⟩ ?_ | refine al_v (opx_cutH_sl (h := min ls.length 20) take20 (by omega) (by omega)) ⟨rfl, rfl, trivial⟩ trivial rfl ?_)) | (refine is_ad ?_; (first | refine al_n opx_mkMapF trivial trivial rfl ?_ | refine al_v opx_mkfnR ⟨rfl, trivial⟩ trivial rfl ?_ | refine al_s (opx_insF rfl (by decide) rfl rfl) ⟨rfl, rfl, rfl, trivial⟩ ⟨rfl, trivial⟩ ?_ | refine al_v (opx_cutH_sl (h := min ls.length 20) take20 (by omega) (by omega)) ⟨rfl, rfl, trivial⟩ trivial rfl ?_)) | (refine is_aw ?_; (first | refine aw_seq ?_ | refine aw_region ?_ | refine aw_block ?_)))
  refine aw_le (le_boxC 0 (cells' := [.c (.sl 1 (lcRs [])), .c (.raw (.slice none 0 0))]) rfl (.cons .nil (.cons .same .nil))) ?_
  refine aw_le (le_boxOwn 0 1 71 (xs := [.c (.sl 1 (lcRs []))]) (ys := []) rfl) ?_
  refine aw_le (le_boxOwn 2 1 5 (xs := [.c (.raw (.pointer none))]) (ys := []) rfl) ?_
  refine aw_le (le_bld 2 4 (T := 47) rfl (.inr rfl)) ?_
  have hLl : ∀ l ∈ ls.take 20, l.length ≤ 2000000 := fun l hl => hL l (List.mem_of_mem_take hl)
  have hL20 : (ls.take 20).length ≤ 20 := by rw [List.length_take]; omega
  generalize ls.take 20 = L at hLl hL20
  have hlr := stRs_len (xs := L)
  refine aw_loop (γ := Nat) (fun k => [(3, .ref 0 0), (4, .own 1), (5, .ref 2 0), (24, .r (slS L)), (25, .i ((stRs L).length : Int)), (26, .i (k : Int))]) (fun k => [(0, sesB (runS ([], []) (L.take k)).1 3), (1, fmO keysS (fnsS 0)), (2, bldO 47 4), (3, ptsO (runS ([], []) (L.take k)).2), (4, bytO (runA ([], []) (L.take k)))]) (fun _ => 5) (fun k => k ≤ L.length) (fun k => L.length - k) 0 (Nat.zero_le _) (le_mk [0, 1, 2, 3, 4] rfl rfl rfl rfl ⟨rfl, rfl, rfl, rfl, rfl, rfl, trivial⟩ ⟨rfl, rfl, rfl, rfl, rfl, trivial⟩) ?_
  intro k hk
  have hok := runS_ok (ls := L.take k) okSs_nil
  have hol := runA_len (ls := L.take k) okSs_nil
  have hkl : (L.take k).length = k := by rw [List.length_take]; omega
  rw [hkl] at hol
  rcases Nat.lt_or_ge k L.length with hlt | hge
  · have hc1 : decide ((k : Int) < ((stRs L).length : Int)) = true := decide_eq_true (by omega)
    obtain ⟨ln, hln⟩ : ∃ ln, L[k]? = some ln := ⟨_, List.getElem?_eq_getElem hlt⟩
    have hlnr := stRs_at hln
    have hll := hLl ln (List.mem_of_getElem? hln)
    obtain ⟨hrA, hrS⟩ := run_take (s := ([], [])) hln
    generalize hst : runS ([], []) (L.take k) = st at hok hrA hrS
    generalize runA ([], []) (L.take k) = out at hol hrA
    have hcc := c_CutL ln hll
    have hrl := cutR_len (ln := ln)
    unfold lnA at hrA
    unfold lnS at hrS
    have hal := comT_len (n := cutN ln) (r := cutR ln) (sp := cutB ln) hok
    generalize cutN ln = nm at hcc hrA hrS hal
    generalize cutR ln = re at hcc hrl hrA hrS hal
    generalize cutB ln = sp at hcc hrA hrS hal
    rw [← List.append_assoc] at hrA
    by_cases h0 : nm = tPut
    · subst h0
      have q : (fnsS 0)[mpI keysS tPut]? = some (.fn 21 (some (0, 0)) []) := by kernel_rfl
      have e1 : comT st tPut re sp = putT st re sp := rfl
      have e2 : comS st tPut re sp = aftS st re sp := by
        unfold comS aftS
        cases sp <;> rfl
      rw [e1] at hrA hal
      rw [e2] at hrS
      repeat' (first | (refine is_al ?_; (first | (refine is_move ?_; (first | refine al_v (opx_move (.raw _)) ⟨rfl, trivial⟩ trivial rfl ?_ | refine al_v (opx_move (.own _)) ⟨rfl, trivial⟩ trivial rfl ?_ | refine al_v (opx_move (.tup _)) ⟨rfl, trivial⟩ trivial rfl ?_ | refine al_v (opx_move (.r (.one (.fn _ _ _)))) ⟨rfl, trivial⟩ trivial rfl ?_)) | (refine is_bin ?_; (first | refine al_v opx_lss ⟨rfl, rfl, trivial⟩ trivial rfl ?_ | refine al_v (opx_add (by unfold InR; omega)) ⟨rfl, rfl, trivial⟩ trivial rfl ?_)) | (refine is_load ?_; refine al_v opx_ld_imm ⟨rfl, trivial⟩ trivial rfl ?_) | (refine is_assign ?_; (first | refine al_v (opx_assign (.raw _)) ⟨rfl, trivial⟩ trivial rfl ?_ | refine al_v (opx_assign (.r (.one (.fn _ _ _)))) ⟨rfl, trivial⟩ trivial rfl ?_)) | (refine is_ia ?_; refine al_v (opx_ia_sl2 hlnr (by omega)) ⟨rfl, rfl, trivial⟩ trivial rfl ?_) | (refine is_call ?_; (first | refine al_callF (by (repeat (first | exact .nil | refine .one rfl rfl ?_ | refine .froz rfl rfl ?_ | refine .rnil rfl ?_ | refine .agg rfl (by (repeat (first | exact .nil | refine .cons (.same rfl) ?_ | refine .cons (.froz rfl) ?_ | refine .cons (.rnil) ?_)); (first | done | fail)) ?_)); (first | done | fail)) rfl (hcc) rfl ?_ | refine al_sput 0 3 rfl rfl rfl rfl rfl (by (repeat (first | exact .nil | refine .one rfl rfl ?_ | refine .tag rfl ?_ | refine .froz rfl rfl ?_ | refine .rnil rfl ?_ | refine .agg rfl (by (repeat (first | exact .nil | refine .cons (.same rfl) ?_ | refine .cons (.froz rfl) ?_ | refine .cons (.rnil) ?_)); (first | done | fail)) ?_)); (first | done | fail)) rfl (c_put st re sp hok (by omega)) rfl ?_ | refine al_bw 2 4 rfl rfl rfl rfl rfl (by (repeat (first | exact .nil | refine .one rfl rfl ?_ | refine .tag rfl ?_ | refine .froz rfl rfl ?_ | refine .rnil rfl ?_ | refine .agg rfl (by (repeat (first | exact .nil | refine .cons (.same rfl) ?_ | refine .cons (.froz rfl) ?_ | refine .cons (.rnil) ?_)); (first | done | fail)) ?_)); (first | done | fail)) rfl (c_WriteString out (putT st re sp) (by omega)) rfl ?_ | refine al_bu 2 6 rfl rfl rfl rfl rfl (by (repeat (first | exact .nil | refine .one rfl rfl ?_ | refine .tag rfl ?_ | refine .froz rfl rfl ?_ | refine .rnil rfl ?_ | refine .agg rfl (by (repeat (first | exact .nil | refine .cons (.same rfl) ?_ | refine .cons (.froz rfl) ?_ | refine .cons (.rnil) ?_)); (first | done | fail)) ?_)); (first | done | fail)) rfl (c_WriteByte (out ++ putT st re sp) 10 (by rw [List.length_append]; omega)) rfl ?_)) | refine al_v (opx_extract _ rfl) ⟨rfl, trivial⟩ trivial rfl ?_ | refine al_nil ?_ | refine al_v (opx_mapGetFt (hT := mftS) rfl q) ⟨rfl, rfl, trivial⟩ ⟨rfl, trivial⟩ rfl ?_ | refine al_bound (sx := 43) (sy := 3) rfl rfl ?_)) | (refine is_ad ?_; (first | refine al_v (opx_mapGetFt (hT := mftS) rfl q) ⟨rfl, rfl, trivial⟩ ⟨rfl, trivial⟩ rfl ?_ | refine al_bound (sx := 43) (sy := 3) rfl rfl ?_)) | (refine is_aw ?_; (first | refine aw_seq ?_ | refine aw_region ?_ | refine aw_skip ?_ | refine aw_block ?_ | (refine is_cond ?_; (first | refine aw_cond_t rfl rfl ?_ | refine aw_cond_t rfl (by assumption) ?_)))) | refine thn_n ?_)
      exact ⟨k + 1, hlt, by omega, le_tr (le_bld 2 7 (T := 47) rfl (.inl rfl)) (le_mk [0, 1, 2, 5, 7] rfl rfl rfl rfl ⟨rfl, rfl, rfl, rfl, rfl, rfl, trivial⟩ ⟨by rw [hrS]; rfl, rfl, rfl, by rw [hrS]; rfl, by rw [hrA]; rfl, trivial⟩)⟩
    have e2 : comS st nm re sp = st := if_neg fun h => h0 h.1
    rw [e2] at hrS
    by_cases h1 : nm = tAt
    · subst h1
      have q : (fnsS 0)[mpI keysS tAt]? = some (.fn 22 (some (0, 0)) []) := by kernel_rfl
      have e1 : comT st tAt re sp = atT st re sp := rfl
      rw [e1] at hrA hal
      repeat' (first | (refine is_al ?_; (first | (refine is_move ?_; (first | refine al_v (opx_move (.raw _)) ⟨rfl, trivial⟩ trivial rfl ?_ | refine al_v (opx_move (.own _)) ⟨rfl, trivial⟩ trivial rfl ?_ | refine al_v (opx_move (.tup _)) ⟨rfl, trivial⟩ trivial rfl ?_ | refine al_v (opx_move (.r (.one (.fn _ _ _)))) ⟨rfl, trivial⟩ trivial rfl ?_)) | (refine is_bin ?_; (first | refine al_v opx_lss ⟨rfl, rfl, trivial⟩ trivial rfl ?_ | refine al_v (opx_add (by unfold InR; omega)) ⟨rfl, rfl, trivial⟩ trivial rfl ?_)) | (refine is_load ?_; refine al_v opx_ld_imm ⟨rfl, trivial⟩ trivial rfl ?_) | (refine is_assign ?_; (first | refine al_v (opx_assign (.raw _)) ⟨rfl, trivial⟩ trivial rfl ?_ | refine al_v (opx_assign (.r (.one (.fn _ _ _)))) ⟨rfl, trivial⟩ trivial rfl ?_)) | (refine is_ia ?_; refine al_v (opx_ia_sl2 hlnr (by omega)) ⟨rfl, rfl, trivial⟩ trivial rfl ?_) | (refine is_call ?_; (first | refine al_callF (by (repeat (first | exact .nil | refine .one rfl rfl ?_ | refine .froz rfl rfl ?_ | refine .rnil rfl ?_ | refine .agg rfl (by (repeat (first | exact .nil | refine .cons (.same rfl) ?_ | refine .cons (.froz rfl) ?_ | refine .cons (.rnil) ?_)); (first | done | fail)) ?_)); (first | done | fail)) rfl (hcc) rfl ?_ | refine al_ses 0 3 rfl rfl rfl rfl rfl (by (repeat (first | exact .nil | refine .one rfl rfl ?_ | refine .tag rfl ?_ | refine .froz rfl rfl ?_ | refine .rnil rfl ?_ | refine .agg rfl (by (repeat (first | exact .nil | refine .cons (.same rfl) ?_ | refine .cons (.froz rfl) ?_ | refine .cons (.rnil) ?_)); (first | done | fail)) ?_)); (first | done | fail)) rfl (c_at st re sp hok (by omega)) rfl ?_ | refine al_bw 2 4 rfl rfl rfl rfl rfl (by (repeat (first | exact .nil | refine .one rfl rfl ?_ | refine .tag rfl ?_ | refine .froz rfl rfl ?_ | refine .rnil rfl ?_ | refine .agg rfl (by (repeat (first | exact .nil | refine .cons (.same rfl) ?_ | refine .cons (.froz rfl) ?_ | refine .cons (.rnil) ?_)); (first | done | fail)) ?_)); (first | done | fail)) rfl (c_WriteString out (atT st re sp) (by omega)) rfl ?_ | refine al_bu 2 5 rfl rfl rfl rfl rfl (by (repeat (first | exact .nil | refine .one rfl rfl ?_ | refine .tag rfl ?_ | refine .froz rfl rfl ?_ | refine .rnil rfl ?_ | refine .agg rfl (by (repeat (first | exact .nil | refine .cons (.same rfl) ?_ | refine .cons (.froz rfl) ?_ | refine .cons (.rnil) ?_)); (first | done | fail)) ?_)); (first | done | fail)) rfl (c_WriteByte (out ++ atT st re sp) 10 (by rw [List.length_append]; omega)) rfl ?_)) | refine al_v (opx_extract _ rfl) ⟨rfl, trivial⟩ trivial rfl ?_ | refine al_nil ?_ | refine al_v (opx_mapGetFt (hT := mftS) rfl q) ⟨rfl, rfl, trivial⟩ ⟨rfl, trivial⟩ rfl ?_ | refine al_bound (sx := 43) (sy := 3) rfl rfl ?_)) | (refine is_ad ?_; (first | refine al_v (opx_mapGetFt (hT := mftS) rfl q) ⟨rfl, rfl, trivial⟩ ⟨rfl, trivial⟩ rfl ?_ | refine al_bound (sx := 43) (sy := 3) rfl rfl ?_)) | (refine is_aw ?_; (first | refine aw_seq ?_ | refine aw_region ?_ | refine aw_skip ?_ | refine aw_block ?_ | (refine is_cond ?_; (first | refine aw_cond_t rfl rfl ?_ | refine aw_cond_t rfl (by assumption) ?_)))) | refine thn_n ?_)
      exact ⟨k + 1, hlt, by omega, le_tr (le_bld 2 6 (T := 47) rfl (.inl rfl)) (le_mk [0, 1, 2, 3, 6] rfl rfl rfl rfl ⟨rfl, rfl, rfl, rfl, rfl, rfl, trivial⟩ ⟨by rw [hrS]; rfl, rfl, rfl, by rw [hrS]; rfl, by rw [hrA]; rfl, trivial⟩)⟩
    by_cases h2 : nm = tSum
    · subst h2
      have q : (fnsS 0)[mpI keysS tSum]? = some (.fn 23 (some (0, 0)) []) := by kernel_rfl
      have e1 : comT st tSum re sp = sumT st re sp := rfl
      rw [e1] at hrA hal
      repeat' (first | (refine is_al ?_; (first | (refine is_move ?_; (first | refine al_v (opx_move (.raw _)) ⟨rfl, trivial⟩ trivial rfl ?_ | refine al_v (opx_move (.own _)) ⟨rfl, trivial⟩ trivial rfl ?_ | refine al_v (opx_move (.tup _)) ⟨rfl, trivial⟩ trivial rfl ?_ | refine al_v (opx_move (.r (.one (.fn _ _ _)))) ⟨rfl, trivial⟩ trivial rfl ?_)) | (refine is_bin ?_; (first | refine al_v opx_lss ⟨rfl, rfl, trivial⟩ trivial rfl ?_ | refine al_v (opx_add (by unfold InR; omega)) ⟨rfl, rfl, trivial⟩ trivial rfl ?_)) | (refine is_load ?_; refine al_v opx_ld_imm ⟨rfl, trivial⟩ trivial rfl ?_) | (refine is_assign ?_; (first | refine al_v (opx_assign (.raw _)) ⟨rfl, trivial⟩ trivial rfl ?_ | refine al_v (opx_assign (.r (.one (.fn _ _ _)))) ⟨rfl, trivial⟩ trivial rfl ?_)) | (refine is_ia ?_; refine al_v (opx_ia_sl2 hlnr (by omega)) ⟨rfl, rfl, trivial⟩ trivial rfl ?_) | (refine is_call ?_; (first | refine al_callF (by (repeat (first | exact .nil | refine .one rfl rfl ?_ | refine .froz rfl rfl ?_ | refine .rnil rfl ?_ | refine .agg rfl (by (repeat (first | exact .nil | refine .cons (.same rfl) ?_ | refine .cons (.froz rfl) ?_ | refine .cons (.rnil) ?_)); (first | done | fail)) ?_)); (first | done | fail)) rfl (hcc) rfl ?_ | refine al_ses 0 3 rfl rfl rfl rfl rfl (by (repeat (first | exact .nil | refine .one rfl rfl ?_ | refine .tag rfl ?_ | refine .froz rfl rfl ?_ | refine .rnil rfl ?_ | refine .agg rfl (by (repeat (first | exact .nil | refine .cons (.same rfl) ?_ | refine .cons (.froz rfl) ?_ | refine .cons (.rnil) ?_)); (first | done | fail)) ?_)); (first | done | fail)) rfl (c_sum st re sp hok (by omega)) rfl ?_ | refine al_bw 2 4 rfl rfl rfl rfl rfl (by (repeat (first | exact .nil | refine .one rfl rfl ?_ | refine .tag rfl ?_ | refine .froz rfl rfl ?_ | refine .rnil rfl ?_ | refine .agg rfl (by (repeat (first | exact .nil | refine .cons (.same rfl) ?_ | refine .cons (.froz rfl) ?_ | refine .cons (.rnil) ?_)); (first | done | fail)) ?_)); (first | done | fail)) rfl (c_WriteString out (sumT st re sp) (by omega)) rfl ?_ | refine al_bu 2 5 rfl rfl rfl rfl rfl (by (repeat (first | exact .nil | refine .one rfl rfl ?_ | refine .tag rfl ?_ | refine .froz rfl rfl ?_ | refine .rnil rfl ?_ | refine .agg rfl (by (repeat (first | exact .nil | refine .cons (.same rfl) ?_ | refine .cons (.froz rfl) ?_ | refine .cons (.rnil) ?_)); (first | done | fail)) ?_)); (first | done | fail)) rfl (c_WriteByte (out ++ sumT st re sp) 10 (by rw [List.length_append]; omega)) rfl ?_)) | refine al_v (opx_extract _ rfl) ⟨rfl, trivial⟩ trivial rfl ?_ | refine al_nil ?_ | refine al_v (opx_mapGetFt (hT := mftS) rfl q) ⟨rfl, rfl, trivial⟩ ⟨rfl, trivial⟩ rfl ?_ | refine al_bound (sx := 43) (sy := 3) rfl rfl ?_)) | (refine is_ad ?_; (first | refine al_v (opx_mapGetFt (hT := mftS) rfl q) ⟨rfl, rfl, trivial⟩ ⟨rfl, trivial⟩ rfl ?_ | refine al_bound (sx := 43) (sy := 3) rfl rfl ?_)) | (refine is_aw ?_; (first | refine aw_seq ?_ | refine aw_region ?_ | refine aw_skip ?_ | refine aw_block ?_ | (refine is_cond ?_; (first | refine aw_cond_t rfl rfl ?_ | refine aw_cond_t rfl (by assumption) ?_)))) | refine thn_n ?_)
      exact ⟨k + 1, hlt, by omega, le_tr (le_bld 2 6 (T := 47) rfl (.inl rfl)) (le_mk [0, 1, 2, 3, 6] rfl rfl rfl rfl ⟨rfl, rfl, rfl, rfl, rfl, rfl, trivial⟩ ⟨by rw [hrS]; rfl, rfl, rfl, by rw [hrS]; rfl, by rw [hrA]; rfl, trivial⟩)⟩
    by_cases h3 : nm = tCount
    · subst h3
      have q : (fnsS 0)[mpI keysS tCount]? = some (.fn 24 (some (0, 0)) []) := by kernel_rfl
      have e1 : comT st tCount re sp = cntT st sp := rfl
      rw [e1] at hrA hal
      repeat' (first | (refine is_al ?_; (first | (refine is_move ?_; (first | refine al_v (opx_move (.raw _)) ⟨rfl, trivial⟩ trivial rfl ?_ | refine al_v (opx_move (.own _)) ⟨rfl, trivial⟩ trivial rfl ?_ | refine al_v (opx_move (.tup _)) ⟨rfl, trivial⟩ trivial rfl ?_ | refine al_v (opx_move (.r (.one (.fn _ _ _)))) ⟨rfl, trivial⟩ trivial rfl ?_)) | (refine is_bin ?_; (first | refine al_v opx_lss ⟨rfl, rfl, trivial⟩ trivial rfl ?_ | refine al_v (opx_add (by unfold InR; omega)) ⟨rfl, rfl, trivial⟩ trivial rfl ?_)) | (refine is_load ?_; refine al_v opx_ld_imm ⟨rfl, trivial⟩ trivial rfl ?_) | (refine is_assign ?_; (first | refine al_v (opx_assign (.raw _)) ⟨rfl, trivial⟩ trivial rfl ?_ | refine al_v (opx_assign (.r (.one (.fn _ _ _)))) ⟨rfl, trivial⟩ trivial rfl ?_)) | (refine is_ia ?_; refine al_v (opx_ia_sl2 hlnr (by omega)) ⟨rfl, rfl, trivial⟩ trivial rfl ?_) | (refine is_call ?_; (first | refine al_callF (by (repeat (first | exact .nil | refine .one rfl rfl ?_ | refine .froz rfl rfl ?_ | refine .rnil rfl ?_ | refine .agg rfl (by (repeat (first | exact .nil | refine .cons (.same rfl) ?_ | refine .cons (.froz rfl) ?_ | refine .cons (.rnil) ?_)); (first | done | fail)) ?_)); (first | done | fail)) rfl (hcc) rfl ?_ | refine al_ses 0 3 rfl rfl rfl rfl rfl (by (repeat (first | exact .nil | refine .one rfl rfl ?_ | refine .tag rfl ?_ | refine .froz rfl rfl ?_ | refine .rnil rfl ?_ | refine .agg rfl (by (repeat (first | exact .nil | refine .cons (.same rfl) ?_ | refine .cons (.froz rfl) ?_ | refine .cons (.rnil) ?_)); (first | done | fail)) ?_)); (first | done | fail)) rfl (c_count st re sp hok) rfl ?_ | refine al_bw 2 4 rfl rfl rfl rfl rfl (by (repeat (first | exact .nil | refine .one rfl rfl ?_ | refine .tag rfl ?_ | refine .froz rfl rfl ?_ | refine .rnil rfl ?_ | refine .agg rfl (by (repeat (first | exact .nil | refine .cons (.same rfl) ?_ | refine .cons (.froz rfl) ?_ | refine .cons (.rnil) ?_)); (first | done | fail)) ?_)); (first | done | fail)) rfl (c_WriteString out (cntT st sp) (by omega)) rfl ?_ | refine al_bu 2 5 rfl rfl rfl rfl rfl (by (repeat (first | exact .nil | refine .one rfl rfl ?_ | refine .tag rfl ?_ | refine .froz rfl rfl ?_ | refine .rnil rfl ?_ | refine .agg rfl (by (repeat (first | exact .nil | refine .cons (.same rfl) ?_ | refine .cons (.froz rfl) ?_ | refine .cons (.rnil) ?_)); (first | done | fail)) ?_)); (first | done | fail)) rfl (c_WriteByte (out ++ cntT st sp) 10 (by rw [List.length_append]; omega)) rfl ?_)) | refine al_v (opx_extract _ rfl) ⟨rfl, trivial⟩ trivial rfl ?_ | refine al_nil ?_ | refine al_v (opx_mapGetFt (hT := mftS) rfl q) ⟨rfl, rfl, trivial⟩ ⟨rfl, trivial⟩ rfl ?_ | refine al_bound (sx := 43) (sy := 3) rfl rfl ?_)) | (refine is_ad ?_; (first | refine al_v (opx_mapGetFt (hT := mftS) rfl q) ⟨rfl, rfl, trivial⟩ ⟨rfl, trivial⟩ rfl ?_ | refine al_bound (sx := 43) (sy := 3) rfl rfl ?_)) | (refine is_aw ?_; (first | refine aw_seq ?_ | refine aw_region ?_ | refine aw_skip ?_ | refine aw_block ?_ | (refine is_cond ?_; (first | refine aw_cond_t rfl rfl ?_ | refine aw_cond_t rfl (by assumption) ?_)))) | refine thn_n ?_)
      exact ⟨k + 1, hlt, by omega, le_tr (le_bld 2 6 (T := 47) rfl (.inl rfl)) (le_mk [0, 1, 2, 3, 6] rfl rfl rfl rfl ⟨rfl, rfl, rfl, rfl, rfl, rfl, trivial⟩ ⟨by rw [hrS]; rfl, rfl, rfl, by rw [hrS]; rfl, by rw [hrA]; rfl, trivial⟩)⟩
    have q : keysS.length ≤ mpI keysS nm := by
      have f0 : decide (tPut = nm) = false := decide_eq_false (fun h => h0 h.symm)
      have f1 : decide (tAt = nm) = false := decide_eq_false (fun h => h1 h.symm)
      have f2 : decide (tSum = nm) = false := decide_eq_false (fun h => h2 h.symm)
      have f3 : decide (tCount = nm) = false := decide_eq_false (fun h => h3 h.symm)
      simp only [mpI, keysS, List.findIdx_cons, f0, f1, f2, f3, cond_false, List.findIdx_nil, List.length_cons, List.length_nil]
      omega
    have e1 : comT st nm re sp = tWhat := by unfold comT; rw [if_neg h0, if_neg h1, if_neg h2, if_neg h3]
    rw [e1] at hrA hal
    repeat' (first | (refine is_al ?_; (first | (refine is_move ?_; (first | refine al_v (opx_move (.raw _)) ⟨rfl, trivial⟩ trivial rfl ?_ | refine al_v (opx_move (.own _)) ⟨rfl, trivial⟩ trivial rfl ?_ | refine al_v (opx_move (.tup _)) ⟨rfl, trivial⟩ trivial rfl ?_)) | (refine is_bin ?_; (first | refine al_v opx_lss ⟨rfl, rfl, trivial⟩ trivial rfl ?_ | refine al_v (opx_add (by unfold InR; omega)) ⟨rfl, rfl, trivial⟩ trivial rfl ?_)) | (refine is_load ?_; refine al_v opx_ld_imm ⟨rfl, trivial⟩ trivial rfl ?_) | (refine is_assign ?_; refine al_v (opx_assign (.raw _)) ⟨rfl, trivial⟩ trivial rfl ?_) | (refine is_ia ?_; refine al_v (opx_ia_sl2 hlnr (by omega)) ⟨rfl, rfl, trivial⟩ trivial rfl ?_) | (refine is_call ?_; (first | refine al_callF (by (repeat (first | exact .nil | refine .one rfl rfl ?_ | refine .froz rfl rfl ?_ | refine .rnil rfl ?_ | refine .agg rfl (by (repeat (first | exact .nil | refine .cons (.same rfl) ?_ | refine .cons (.froz rfl) ?_ | refine .cons (.rnil) ?_)); (first | done | fail)) ?_)); (first | done | fail)) rfl (hcc) rfl ?_ | refine al_bw 2 4 rfl rfl rfl rfl rfl (by (repeat (first | exact .nil | refine .one rfl rfl ?_ | refine .tag rfl ?_ | refine .froz rfl rfl ?_ | refine .rnil rfl ?_ | refine .agg rfl (by (repeat (first | exact .nil | refine .cons (.same rfl) ?_ | refine .cons (.froz rfl) ?_ | refine .cons (.rnil) ?_)); (first | done | fail)) ?_)); (first | done | fail)) rfl (c_WriteString out tWhat (by omega)) rfl ?_ | refine al_bu 2 5 rfl rfl rfl rfl rfl (by (repeat (first | exact .nil | refine .one rfl rfl ?_ | refine .tag rfl ?_ | refine .froz rfl rfl ?_ | refine .rnil rfl ?_ | refine .agg rfl (by (repeat (first | exact .nil | refine .cons (.same rfl) ?_ | refine .cons (.froz rfl) ?_ | refine .cons (.rnil) ?_)); (first | done | fail)) ?_)); (first | done | fail)) rfl (c_WriteByte (out ++ tWhat) 10 (by rw [List.length_append]; omega)) rfl ?_)) | refine al_v (opx_extract _ rfl) ⟨rfl, trivial⟩ trivial rfl ?_ | refine al_nil ?_ | refine al_v (opx_mapGetFf (hT := mftS) (fs := fnsS 0) rfl q) ⟨rfl, rfl, trivial⟩ ⟨rfl, trivial⟩ rfl ?_)) | (refine is_ad ?_; refine al_v (opx_mapGetFf (hT := mftS) (fs := fnsS 0) rfl q) ⟨rfl, rfl, trivial⟩ ⟨rfl, trivial⟩ rfl ?_) | (refine is_aw ?_; (first | refine aw_seq ?_ | refine aw_region ?_ | refine aw_skip ?_ | refine aw_block ?_ | (refine is_cond ?_; (first | refine aw_cond_f rfl rfl ?_ | refine aw_cond_t rfl (by assumption) ?_)))) | refine thn_n ?_)
    exact ⟨k + 1, hlt, by omega, le_tr (le_bld 2 6 (T := 47) rfl (.inl rfl)) (le_mk [0, 1, 2, 3, 6] rfl rfl rfl rfl ⟨rfl, rfl, rfl, rfl, rfl, rfl, trivial⟩ ⟨by rw [hrS]; rfl, rfl, rfl, by rw [hrS]; rfl, by rw [hrA]; rfl, trivial⟩)⟩
  · have hc1 : decide ((k : Int) < ((stRs L).length : Int)) = false := decide_eq_false (by omega)
    rw [List.take_of_length_le hge]
    repeat' (first | (refine is_al ?_; (first | (refine is_bin ?_; refine al_v opx_lss ⟨rfl, rfl, trivial⟩ trivial rfl ?_) | (refine is_assign ?_; refine al_v (opx_assign (.raw _)) ⟨rfl, trivial⟩ trivial rfl ?_) | (refine is_call ?_; refine al_bs 2 4 rfl rfl rfl rfl rfl (by (repeat (first | exact .nil | refine .one rfl rfl ?_ | refine .tag rfl ?_ | refine .froz rfl rfl ?_ | refine .rnil rfl ?_ | refine .agg rfl (by (repeat (first | exact .nil | refine .cons (.same rfl) ?_ | refine .cons (.froz rfl) ?_ | refine .cons (.rnil) ?_)); (first | done | fail)) ?_)); (first | done | fail)) rfl (c_bString (runA ([], []) L)) rfl ?_) | refine al_nil ?_)) | (refine is_aw ?_; (first | refine aw_seq ?_ | refine aw_region ?_ | refine aw_ret ?_ | refine aw_exit ?_ | (refine is_cond ?_; refine aw_cond_f rfl (by assumption) ?_))))
    exact ret_raw trivial rfl ⟨rfl, rfl⟩
end Go.Proofs.YtfoecgfboicphaaGreatDoor

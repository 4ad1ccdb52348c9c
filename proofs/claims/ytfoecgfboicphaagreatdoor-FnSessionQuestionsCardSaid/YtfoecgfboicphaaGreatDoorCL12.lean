/- Texts: ShelfI Eng36 Eng32 W100 PN ShelfA -/
import Derived.Test.YtfoecgfboicphaaGreatDoorCL11
import Derived.Shelf.LaysM
import Derived.Shelf.Strconv.Itoa3
import Derived.Test.YtfoecgfboicphaaGreatDoorProg
import Derived.Test.YtfoecgfboicphaaGreatDoorCL9
import Derived.Test.YtfoecgfboicphaaGreatDoorCL10
import Derived.Lib.Atoi
import Derived.Lib.ItoaNum
import Derived.Lib.SplitLaws
import Derived.Lib.IndexBytes
import Derived.Shelf.LaysC
import Derived.Shelf.Strconv.Atoi
import Derived.Shelf.Strconv.AtoiErr
import Derived.Shelf.Strings.Split
/-
  strconv.Itoa at this program: as the shelf's tools wrote it, under names of ours.
-/
namespace Go.Proofs.YtfoecgfboicphaaGreatDoor
open Go.Shelf Go.RowKit
def laysM171_ren : Go.Shelf.Ren := ⟨fun | 171 => 37 | 243 => 60 | 246 => 84 | 283 => 114 | 284 => 115 | 285 => 116 | 286 => 117 | 129 => 130 | 317 => 129 | 318 => 131 | 319 => 132 | 320 => 133 | 337 => 137 | 338 => 138 | n => n, fun | 3 => 3 | 9 => 9 | 2 => 2 | 4 => 4 | 171 => 127 | 0 => 0 | 53 => 128 | 37 => 22 | 5 => 5 | 173 => 131 | 212 => 144 | 51 => 133 | 20 => 20 | 213 => 145 | 46 => 111 | 232 => 156 | 233 => 157 | n => n, fun | 17 => 3 | 18 => 6 | 19 => 7 | n => n⟩
theorem laysM171 : Go.Proofs.LaysM.n171 Tryz.prog laysM171_ren := {
  mixed := by kernel_rfl
  f129 := Tryz.func130.trans (congrArg some (by kernel_rfl))
  f171 := Tryz.func37.trans (congrArg some (by kernel_rfl))
  f243 := Tryz.func60.trans (congrArg some (by kernel_rfl))
  f246 := Tryz.func84.trans (congrArg some (by kernel_rfl))
  f283 := Tryz.func114.trans (congrArg some (by kernel_rfl))
  f284 := Tryz.func115.trans (congrArg some (by kernel_rfl))
  f285 := Tryz.func116.trans (congrArg some (by kernel_rfl))
  f286 := Tryz.func117.trans (congrArg some (by kernel_rfl))
  f317 := Tryz.func129.trans (congrArg some (by kernel_rfl))
  f318 := Tryz.func131.trans (congrArg some (by kernel_rfl))
  f319 := Tryz.func132.trans (congrArg some (by kernel_rfl))
  f320 := Tryz.func133.trans (congrArg some (by kernel_rfl))
  f337 := Tryz.func137.trans (congrArg some (by kernel_rfl))
  f338 := Tryz.func138.trans (congrArg some (by kernel_rfl))
  t0 := Tryz.underlying0
  a0 := Tryz.isAgg0
  z0 := Tryz.sizeOf0
  v0 := Tryz.zeroValue0
  t2 := Tryz.underlying2
  a2 := Tryz.isAgg2
  z2 := Tryz.sizeOf2
  v2 := Tryz.zeroValue2
  t3 := Tryz.underlying3
  a3 := Tryz.isAgg3
  z3 := Tryz.sizeOf3
  v3 := Tryz.zeroValue3
  t4 := Tryz.underlying4
  a4 := Tryz.isAgg4
  z4 := Tryz.sizeOf4
  v4 := Tryz.zeroValue4
  t5 := Tryz.underlying5
  a5 := Tryz.isAgg5
  z5 := Tryz.sizeOf5
  v5 := Tryz.zeroValue5
  t9 := Tryz.underlying9
  a9 := Tryz.isAgg9
  z9 := Tryz.sizeOf9
  v9 := Tryz.zeroValue9
  t20 := Tryz.underlying20
  a20 := Tryz.isAgg20
  z20 := Tryz.sizeOf20
  v20 := Tryz.zeroValue20
  t37 := Tryz.underlying22
  a37 := Tryz.isAgg22
  z37 := Tryz.sizeOf22
  v37 := Tryz.zeroValue22
  t46 := Tryz.underlying111
  a46 := Tryz.isAgg111
  z46 := Tryz.sizeOf111
  v46 := Tryz.zeroValue111
  t51 := Tryz.underlying133
  a51 := Tryz.isAgg133
  z51 := Tryz.sizeOf133
  v51 := Tryz.zeroValue133
  t53 := Tryz.underlying128
  a53 := Tryz.isAgg128
  z53 := Tryz.sizeOf128
  v53 := Tryz.zeroValue128
  t171 := Tryz.underlying127
  a171 := Tryz.isAgg127
  z171 := Tryz.sizeOf127
  v171 := Tryz.zeroValue127
  t173 := Tryz.underlying131
  a173 := Tryz.isAgg131
  z173 := Tryz.sizeOf131
  v173 := Tryz.zeroValue131
  t212 := Tryz.underlying144
  a212 := Tryz.isAgg144
  z212 := Tryz.sizeOf144
  v212 := Tryz.zeroValue144
  t213 := Tryz.underlying145
  a213 := Tryz.isAgg145
  z213 := Tryz.sizeOf145
  t232 := Tryz.underlying156
  a232 := Tryz.isAgg156
  z232 := Tryz.sizeOf156
  v232 := Tryz.zeroValue156
  t233 := Tryz.underlying157
  a233 := Tryz.isAgg157
  z233 := Tryz.sizeOf157
  v233 := Tryz.zeroValue157
  g17 := by kernel_rfl
  g18 := by kernel_rfl
  g19 := by kernel_rfl
  i0 := by kernel_rfl
  i2 := by kernel_rfl
  i3 := by kernel_rfl
  i4 := by kernel_rfl
  i5 := by kernel_rfl
  i9 := by kernel_rfl
  i20 := by kernel_rfl
  i37 := by kernel_rfl
  i46 := by kernel_rfl
  i51 := by kernel_rfl
  i53 := by kernel_rfl
  i171 := by kernel_rfl
  i173 := by kernel_rfl
  i212 := by kernel_rfl
  i232 := by kernel_rfl
  i233 := by kernel_rfl
  m17 := by kernel_rfl
  m18 := by kernel_rfl
  m19 := by kernel_rfl }
theorem strconv_Itoa (n : Int) (h0 : -9223372036854775808 ≤ n) (h1 : n ≤ 9223372036854775807) (w : World) (htab : Lib.TabIs Tryz.prog w "internal/strconv.uint64pow10" .u64 Lib.pow10Tab) :
    Calls Tryz.prog 37 #[.int .i64 n] w fun e w' => e = .returned (.string ⟨(Lib.itoa n).toArray⟩) ∧ ∃ k os, w' = Go.Sort.grow (w.drewN k) os := Any.strconv_Itoa laysM171 n h0 h1 w htab
end Go.Proofs.YtfoecgfboicphaaGreatDoor
/-
  The shelf's contracts that lean on what package variables hold.
-/
namespace Go.Proofs.YtfoecgfboicphaaGreatDoor
open Go.RowKit
set_option linter.unusedVariables false
set_option linter.unusedSimpArgs false
theorem con_of_belowG {P : Program} {f : FuncId} {args : List AR} {v : Value} (hv : v.oneCell' = true) (hok : fnOk P f = true)
    (H : ∀ (w : World) (ρ : Nat → Value) (Z : Nat → Prop) (vs : List Value), DRL ρ Z w args vs → (∀ g, Z g → g < w.heap.size) → Gl Z w → Calls P f vs.toArray w fun e w' => e = .returned v ∧ Below w.heap.size w w') :
    Con P f args [] (fun rs all => rs = [.one (.c (.raw v))] ∧ all = []) :=
  ⟨hok, fun w ρ Z vs he => (H w ρ Z vs he.args he.zlt he.gl).mono fun e w' ⟨h1, h2⟩ =>
    ⟨[.one (.c (.raw v))], [], [v], ρ, Z, ⟨rfl, rfl⟩, Nat.le_refl _, h1, by
      exact ⟨⟨.raw _ hv, trivial⟩, fun i => trivial, fun i hi => rfl, fun i j g hi => by simp [obAt, OB.live] at hi, fun i g hi => by simp [obAt, OB.live] at hi, fun g hg => hg, fun g hg => .inl hg,
        fun g hg => Nat.lt_of_lt_of_le (he.zlt g hg) h2.size, ⟨rfl, rfl⟩, h2.os, h2.tape, h2.output, h2.size, fun g hg _ => h2.block g hg⟩⟩⟩
section
variable {P : Program} {d : Nat} {x y : Operand} {t ty : TypeId} {pos : String} {af : Array Edge} {gd : Option (Nat × Bool)}
theorem opx_negE {m r : Int} (he : -m = r) (h : InR r) : OpX P ⟨some d, .unOp .neg t x, ty, pos, af, gd⟩ [(x, .i m)] [] [] [(d, .i r)] [] := by
  subst he; exact opx_neg h
end
end Go.Proofs.YtfoecgfboicphaaGreatDoor
/-
  Own bytes as a string.
-/
namespace Go.Proofs.YtfoecgfboicphaaGreatDoor
open Go.RowKit
set_option linter.unusedVariables false
section
variable {P : Program} {d u : Nat} {x : Operand} {ty : TypeId} {pos : String} {af : Array Edge} {gd : Option (Nat × Bool)}
theorem opx_bstr_own {src dst e e' wd bytes : Nat} {zs : List Value} [hT : SlT P src e wd bytes zs] [hS : StrT P dst] (he : P.underlying e = some (.int .u8)) {bs : List UInt8} :
    OpX P ⟨some d, .convert src dst x, ty, pos, af, gd⟩ [(x, .own u)] [(u, .row 1 e' (byRs bs))] [] [(d, .str bs)] [] :=
  opx_bstr [(u, .row 1 e' (byRs bs))] he (av := .own u) fun O h => .inr ⟨_, h.1⟩
end
end Go.Proofs.YtfoecgfboicphaaGreatDoor
/-
  Numbers in decimal, texts of lines: the walks.
-/
namespace Go.Proofs.YtfoecgfboicphaaGreatDoor
open Go.RowKit
set_option linter.unusedVariables false
set_option linter.unusedSimpArgs false
attribute [local irreducible] AL AW OpX Le AD

theorem tab_of {Z : Nat → Prop} {w : World} (h : Gl Z w) : Lib.TabIs Tryz.prog w "internal/strconv.uint64pow10" .u64 Lib.pow10Tab := by
  obtain ⟨_, o, h1, t, fr, rfl⟩ := h ⟨3, _⟩ (.tail _ (.head _))
  have hg : Tryz.prog.globalNamed "internal/strconv.uint64pow10" = some 3 := by kernel_rfl
  unfold Lib.TabIs World.var?
  rw [hg]
  show (match w.heap[3]? with | some (.cells cs _ _) => some cs | _ => none) = _
  rw [h1]; rfl
theorem c_Itoa (n : Int) (h : -9223372036854775808 ≤ n ∧ n ≤ 9223372036854775807) : Con Tryz.prog 37 [rI n] [] (fun rs all => rs = [rStr (Lib.itoa n)] ∧ all = []) := by
  refine con_of_belowG (v := .string ⟨(Lib.itoa n).toArray⟩) rfl (by kernel_rfl) fun w ρ Z vs hd hz hgl => ?_
  match vs, hd with
  | [u], hd =>
    have hu : u = .int .i64 n := by
      have h : DC Z w (cI n) u := hd.1
      cases h; rfl
    subst hu
    refine (strconv_Itoa n h.1 h.2 w (tab_of hgl)).mono ?_
    rintro e w' ⟨rfl, k, os, rfl⟩
    refine ⟨rfl, rfl, rfl, rfl, ?_, fun g hg => ?_⟩
    · show w.heap.size ≤ (w.heap ++ os).size
      simp
    · show (w.heap ++ os)[g]? = _
      rw [Array.getElem?_append_left hg]
theorem dec_small {u : Nat} (h : u < 10) : Lib.decDigits u = [UInt8.ofNat (48 + u)] := Lib.decDigits_one h
theorem dec_big {u : Nat} (h : ¬ u < 10) : Lib.decDigits u = Lib.decDigits (u / 10) ++ [UInt8.ofNat (48 + u % 10)] := by rw [Lib.decDigits, dif_neg h]
theorem dec_len : ∀ (n : Nat) {u : Nat}, u ≤ n → (Lib.decDigits u).length ≤ u + 1
  | n, u, h => by
    by_cases h1 : u < 10
    · rw [dec_small h1]; simp
    · rw [dec_big h1, List.length_append]
      match n with
      | 0 => omega
      | n + 1 =>
        have := dec_len n (u := u / 10) (by omega)
        simp; omega
theorem c_decN (n : Nat) : ∀ u : Nat, u ≤ n → u ≤ 1000000000000 → Con Tryz.prog 18 [rI (u : Int)] [] (fun rs all => rs = [rStr (Lib.decDigits u)] ∧ all = []) := by
  induction n with
  | zero =>
    intro u h0 hu
    obtain rfl : u = 0 := by omega
    have d0 : decide (((0 : Nat) : Int) < 0) = false := rfl
    have d1 : decide (((0 : Nat) : Int) < 10) = true := rfl
    refine con_of_aw (vars := [.tmp 2]) [(0, .r (rI ((0 : Nat) : Int)))] [] 0 Tryz.func18 (by kernel_rfl) rfl Tryz.ntmps18 rfl (by decide) rfl rfl rfl rfl rfl ?_; intro B M w0 ρ0 Z0
    repeat' (first | (refine is_al ?_; (first | (refine is_gd ?_; refine al_off rfl rfl rfl (by assumption) rfl ?_) | (refine is_move ?_; refine al_v (opx_move (.raw _)) ⟨rfl, trivial⟩ trivial rfl ?_) | (refine is_bin ?_; (first | refine al_v opx_lss ⟨rfl, rfl, trivial⟩ trivial rfl ?_ | refine al_v (opx_add (by unfold InR; omega)) ⟨rfl, rfl, trivial⟩ trivial rfl ?_)) | (refine is_assign ?_; refine al_v (opx_assign (.raw _)) ⟨rfl, trivial⟩ trivial rfl ?_) | (refine is_pick ?_; refine al_v (opx_pick_f (.raw _) rfl) ⟨rfl, rfl, trivial⟩ trivial rfl ?_) | refine al_nil ?_ | refine al_v (opx_byte (k := 48 + 0) (by omega) (by omega)) ⟨rfl, trivial⟩ trivial rfl ?_ | refine al_litB1 rfl rfl ?_ | refine al_v (opx_bstr_own (by kernel_rfl)) ⟨rfl, trivial⟩ ⟨rfl, trivial⟩ rfl ?_)) | (refine is_ad ?_; (first | refine al_v (opx_byte (k := 48 + 0) (by omega) (by omega)) ⟨rfl, trivial⟩ trivial rfl ?_ | refine al_litB1 rfl rfl ?_ | refine al_v (opx_bstr_own (by kernel_rfl)) ⟨rfl, trivial⟩ ⟨rfl, trivial⟩ rfl ?_)) | (refine is_aw ?_; (first | refine aw_seq ?_ | refine aw_region ?_ | refine aw_skip ?_ | refine aw_ret ?_ | (refine is_cond ?_; (first | refine aw_cond_t rfl rfl ?_ | refine aw_cond_f rfl rfl ?_)))) | refine thn_r ?_)
    exact ret_raw trivial rfl ⟨by rw [dec_small (by omega)], rfl⟩
  | succ n ih =>
    intro u h0 hu
    have d0 : decide ((u : Int) < 0) = false := decide_eq_false (by omega)
    by_cases h : u < 10
    · have d1 : decide ((u : Int) < 10) = true := decide_eq_true (by omega)
      refine con_of_aw (vars := [.tmp 2]) [(0, .r (rI (u : Int)))] [] 0 Tryz.func18 (by kernel_rfl) rfl Tryz.ntmps18 rfl (by decide) rfl rfl rfl rfl rfl ?_; intro B M w0 ρ0 Z0
      repeat' (first | (refine is_al ?_; (first | (refine is_gd ?_; refine al_off rfl rfl rfl (by assumption) rfl ?_) | (refine is_move ?_; refine al_v (opx_move (.raw _)) ⟨rfl, trivial⟩ trivial rfl ?_) | (refine is_bin ?_; (first | refine al_v opx_lss ⟨rfl, rfl, trivial⟩ trivial rfl ?_ | refine al_v (opx_add (by unfold InR; omega)) ⟨rfl, rfl, trivial⟩ trivial rfl ?_)) | (refine is_assign ?_; refine al_v (opx_assign (.raw _)) ⟨rfl, trivial⟩ trivial rfl ?_) | (refine is_pick ?_; refine al_v (opx_pick_f (.raw _) rfl) ⟨rfl, rfl, trivial⟩ trivial rfl ?_) | refine al_nil ?_ | refine al_v (opx_byte (k := 48 + u) (by omega) (by omega)) ⟨rfl, trivial⟩ trivial rfl ?_ | refine al_litB1 rfl rfl ?_ | refine al_v (opx_bstr_own (by kernel_rfl)) ⟨rfl, trivial⟩ ⟨rfl, trivial⟩ rfl ?_)) | (refine is_ad ?_; (first | refine al_v (opx_byte (k := 48 + u) (by omega) (by omega)) ⟨rfl, trivial⟩ trivial rfl ?_ | refine al_litB1 rfl rfl ?_ | refine al_v (opx_bstr_own (by kernel_rfl)) ⟨rfl, trivial⟩ ⟨rfl, trivial⟩ rfl ?_)) | (refine is_aw ?_; (first | refine aw_seq ?_ | refine aw_region ?_ | refine aw_skip ?_ | refine aw_ret ?_ | (refine is_cond ?_; (first | refine aw_cond_f rfl rfl ?_ | refine aw_cond_t rfl (by assumption) ?_)))) | refine thn_r ?_)
      exact ret_raw trivial rfl ⟨by rw [dec_small h], rfl⟩
    · have d1 : decide ((u : Int) < 10) = false := decide_eq_false (by omega)
      have hc := ih (u / 10) (by omega) (by omega)
      rw [show ((u / 10 : Nat) : Int) = (u : Int) / 10 by omega] at hc
      have hl := dec_len (u / 10) (u := u / 10) (Nat.le_refl _)
      refine con_of_aw (vars := [.tmp 2]) [(0, .r (rI (u : Int)))] [] 0 Tryz.func18 (by kernel_rfl) rfl Tryz.ntmps18 rfl (by decide) rfl rfl rfl rfl rfl ?_; intro B M w0 ρ0 Z0
      repeat' (first | (refine is_al ?_; (first | (refine is_gd ?_; refine al_off rfl rfl rfl (by assumption) rfl ?_) | (refine is_move ?_; refine al_v (opx_move (.raw _)) ⟨rfl, trivial⟩ trivial rfl ?_) | (refine is_bin ?_; refine al_v opx_lss ⟨rfl, rfl, trivial⟩ trivial rfl ?_) | (refine is_assign ?_; refine al_v (opx_assign (.raw _)) ⟨rfl, trivial⟩ trivial rfl ?_) | (refine is_pick ?_; refine al_v (opx_pick_f (.raw _) rfl) ⟨rfl, rfl, trivial⟩ trivial rfl ?_) | refine al_nil ?_ | refine ad_v (opx_byte (k := 48 + u % 10) (by omega) (by omega)) ⟨rfl, trivial⟩ trivial rfl ?_ | refine ad_litB1 rfl rfl ?_ | refine ad_v (opx_bstr_own (by kernel_rfl)) ⟨rfl, trivial⟩ ⟨rfl, trivial⟩ rfl ?_ | refine ad_v (opx_cat (by simp only [List.length_cons, List.length_nil]; omega)) ⟨rfl, rfl, trivial⟩ trivial rfl ?_)) | (refine is_ad ?_; (first | (refine isd_move ?_; refine ad_v (opx_move (.raw _)) ⟨rfl, trivial⟩ trivial rfl ?_) | (refine isd_bin ?_; (first | refine ad_v (opx_add (by unfold InR; omega)) ⟨rfl, rfl, trivial⟩ trivial rfl ?_ | refine ad_v (opx_quo (by unfold InR; omega) (by omega) (by omega)) ⟨rfl, rfl, trivial⟩ trivial rfl ?_ | refine ad_v (opx_rem (by omega) (by omega)) ⟨rfl, rfl, trivial⟩ trivial rfl ?_)) | (refine isd_assign ?_; refine ad_v (opx_assign (.raw _)) ⟨rfl, trivial⟩ trivial rfl ?_) | (refine isd_call ?_; refine ad_callF2 (by (repeat (first | exact .nil | refine .one rfl rfl ?_ | refine .froz rfl rfl ?_ | refine .rnil rfl ?_)); (first | done | fail)) rfl (hc) rfl ?_) | refine ad_nil (by kernel_rfl) ?_ | refine ad_v (opx_byte (k := 48 + u % 10) (by omega) (by omega)) ⟨rfl, trivial⟩ trivial rfl ?_ | refine ad_litB1 rfl rfl ?_ | refine ad_v (opx_bstr_own (by kernel_rfl)) ⟨rfl, trivial⟩ ⟨rfl, trivial⟩ rfl ?_ | refine ad_v (opx_cat (by simp only [List.length_cons, List.length_nil]; omega)) ⟨rfl, rfl, trivial⟩ trivial rfl ?_)) | (refine is_aw ?_; (first | refine aw_seq ?_ | refine aw_region ?_ | refine aw_skip ?_ | refine aw_ret ?_ | (refine is_cond ?_; (first | refine aw_cond_f rfl rfl ?_ | refine aw_cond_f rfl (by assumption) ?_)) | refine aw_draw mixed ?_)))
      exact ret_raw trivial rfl ⟨by rw [dec_big h], rfl⟩
theorem itoa_pos {u : Nat} : Lib.itoa (u : Int) = Lib.decDigits u := by
  rw [Lib.itoa, if_neg (by omega), Int.toNat_natCast]
theorem itoa_neg {u : Nat} (h : 0 < u) : Lib.itoa (-(u : Int)) = 45 :: Lib.decDigits u := by
  rw [Lib.itoa, if_pos (by omega)]
  congr 2
  omega
theorem c_decimal (n : Int) (h : -1000000000000 ≤ n ∧ n ≤ 1000000000000) : Con Tryz.prog 18 [rI n] [] (fun rs all => rs = [rStr (Lib.itoa n)] ∧ all = []) := by
  by_cases h0 : 0 ≤ n
  · obtain ⟨u, rfl⟩ : ∃ u : Nat, n = (u : Int) := ⟨n.toNat, by omega⟩
    rw [itoa_pos]
    exact c_decN u u (Nat.le_refl _) (by omega)
  · obtain ⟨u, rfl⟩ : ∃ u : Nat, n = -(u : Int) := ⟨n.natAbs, by omega⟩
    have hc := c_decN u u (Nat.le_refl _) (by omega)
    have hl := dec_len u (u := u) (Nat.le_refl _)
    have d0 : decide (-(u : Int) < 0) = true := decide_eq_true (by omega)
    have d1 : decide (-(u : Int) = (u : Int)) = false := decide_eq_false (by omega)
    refine con_of_aw (vars := [.tmp 2]) [(0, .r (rI (-(u : Int))))] [] 0 Tryz.func18 (by kernel_rfl) rfl Tryz.ntmps18 rfl (by decide) rfl rfl rfl rfl rfl ?_; intro B M w0 ρ0 Z0
    repeat' (first | (refine is_al ?_; (first | (refine is_gd ?_; refine al_on rfl rfl rfl (by assumption) ?_) | (refine is_move ?_; refine al_v (opx_move (.raw _)) ⟨rfl, trivial⟩ trivial rfl ?_) | (refine is_bin ?_; (first | refine al_v opx_eql ⟨rfl, rfl, trivial⟩ trivial rfl ?_ | refine al_v opx_lss ⟨rfl, rfl, trivial⟩ trivial rfl ?_)) | (refine is_assign ?_; refine al_v (opx_assign (.raw _)) ⟨rfl, trivial⟩ trivial rfl ?_) | (refine is_pick ?_; refine al_v (opx_pick_t (.raw _) (by assumption)) ⟨rfl, rfl, trivial⟩ trivial rfl ?_) | (refine is_call ?_; refine al_callF (by (repeat (first | exact .nil | refine .one rfl rfl ?_ | refine .froz rfl rfl ?_ | refine .rnil rfl ?_ | refine .agg rfl (by (repeat (first | exact .nil | refine .cons (.same rfl) ?_ | refine .cons (.froz rfl) ?_ | refine .cons (.rnil) ?_)); (first | done | fail)) ?_)); (first | done | fail)) rfl (hc) rfl ?_) | refine al_nil ?_ | refine al_v (opx_negE (r := (u : Int)) (by omega) (by unfold InR; omega)) ⟨rfl, trivial⟩ trivial rfl ?_ | refine al_v (opx_cat (by simp only [List.length_cons, List.length_nil]; omega)) ⟨rfl, rfl, trivial⟩ trivial rfl ?_)) | (refine is_ad ?_; (first | refine al_v (opx_negE (r := (u : Int)) (by omega) (by unfold InR; omega)) ⟨rfl, trivial⟩ trivial rfl ?_ | refine al_v (opx_cat (by simp only [List.length_cons, List.length_nil]; omega)) ⟨rfl, rfl, trivial⟩ trivial rfl ?_)) | (refine is_aw ?_; (first | refine aw_seq ?_ | refine aw_region ?_ | refine aw_skip ?_ | refine aw_ret ?_ | (refine is_cond ?_; (first | refine aw_cond_t rfl (by assumption) ?_ | refine aw_cond_f rfl (by assumption) ?_)))) | refine thn_r ?_)
    exact ret_raw trivial rfl ⟨by rw [itoa_neg (by omega)]; rfl, rfl⟩
def lnT (l : List Lb) (t v : Int) : Str := txt l ++ [32] ++ Lib.itoa v ++ [32] ++ Lib.itoa t
noncomputable def lnB (l : List Lb) (t v : Int) : Bool := vlB l && decide (0 ≤ t ∧ t ≤ 1000 ∧ -1000 ≤ v ∧ v ≤ 1000)
theorem itoa_len {n : Int} (h : -1000000 ≤ n ∧ n ≤ 1000000) : (Lib.itoa n).length ≤ 1000002 := by
  unfold Lib.itoa
  split
  · have := dec_len n.natAbs (u := n.natAbs) (Nat.le_refl _)
    rw [List.length_cons]; omega
  · have := dec_len n.toNat (u := n.toNat) (Nat.le_refl _)
    omega
end Go.Proofs.YtfoecgfboicphaaGreatDoor
/-
  Numbers in decimal and words: the plain law.
-/
namespace Go.Proofs.YtfoecgfboicphaaGreatDoor
open Go
set_option linter.unusedVariables false
set_option linter.unusedSimpArgs false

theorem dec_lowD : ∀ (n : Nat) {u : Nat}, u ≤ n → ∀ c ∈ Lib.decDigits u, 48 ≤ c.toNat ∧ c.toNat ≤ 57
  | n, u, h, c, hc => by
    by_cases h1 : u < 10
    · rw [dec_small h1] at hc
      obtain rfl := List.mem_singleton.1 hc
      rw [UInt8.toNat_ofNat']; omega
    · rw [dec_big h1] at hc
      rcases List.mem_append.1 hc with hc | hc
      · match n with
        | 0 => omega
        | n + 1 => exact dec_lowD n (by omega) c hc
      · obtain rfl := List.mem_singleton.1 hc
        rw [UInt8.toNat_ofNat']; omega
theorem dec_ne {u : Nat} : Lib.decDigits u ≠ [] := by
  by_cases h : u < 10
  · rw [dec_small h]; simp
  · rw [dec_big h]; simp
/-- What digits are worth. -/
def vD (acc : Nat) (l : Str) : Nat := l.foldl (fun a c => a * 10 + (c.toNat - 48)) acc
theorem vD_snoc {acc : Nat} {l : Str} {c : UInt8} : vD acc (l ++ [c]) = vD acc l * 10 + (c.toNat - 48) := by simp [vD]
theorem vD_dec : ∀ (n : Nat) {u : Nat}, u ≤ n → vD 0 (Lib.decDigits u) = u
  | n, u, h => by
    by_cases h1 : u < 10
    · rw [dec_small h1]
      simp only [vD, List.foldl_cons, List.foldl_nil, UInt8.toNat_ofNat']; omega
    · rw [dec_big h1, vD_snoc]
      match n with
      | 0 => omega
      | n + 1 =>
        rw [vD_dec n (u := u / 10) (by omega), UInt8.toNat_ofNat']; omega
theorem vD_from : ∀ {l : Str} {acc : Nat}, (∀ c ∈ l, 48 ≤ c.toNat ∧ c.toNat ≤ 57) → Lib.decFrom acc l = some (vD acc l)
  | [], _, _ => rfl
  | c :: l, acc, h => by
    have hc := h c (.head _)
    rw [Lib.decFrom, Lib.digitVal, if_pos hc]
    exact vD_from fun d hd => h d (.tail _ hd)
theorem dec_from {u : Nat} : Lib.decNat (Lib.decDigits u) = some u := by
  unfold Lib.decNat
  have : (Lib.decDigits u).isEmpty = false := by
    cases h : Lib.decDigits u with
    | nil => exact absurd h dec_ne
    | cons => rfl
  rw [this, vD_from (dec_lowD u (Nat.le_refl _)), vD_dec u (Nat.le_refl _)]; rfl
theorem atoi_itoa (n : Int) : Lib.atoi (Lib.itoa n) = some n := by
  by_cases h : 0 ≤ n
  · obtain ⟨u, rfl⟩ : ∃ u : Nat, n = (u : Int) := ⟨n.toNat, by omega⟩
    rw [itoa_pos]
    cases hd : Lib.decDigits u with
    | nil => exact absurd hd dec_ne
    | cons c r =>
      have hc := dec_lowD u (Nat.le_refl _) c (by rw [hd]; exact .head _)
      have h1 : (c == 45) = false := by simp only [beq_eq_false_iff_ne]; rintro rfl; exact absurd hc (by decide)
      have h2 : (c == 43) = false := by simp only [beq_eq_false_iff_ne]; rintro rfl; exact absurd hc (by decide)
      simp only [Lib.atoi, h1, h2, Bool.false_eq_true, if_false]
      rw [← hd, dec_from]; rfl
  · obtain ⟨u, rfl⟩ : ∃ u : Nat, n = -(u : Int) := ⟨n.natAbs, by omega⟩
    rw [itoa_neg (by omega)]
    simp only [Lib.atoi, beq_self_eq_true, if_true]
    rw [dec_from]; rfl
/-- The number whose decimal form of at most five bytes a word is. -/
def numO (w : Str) : Option Int := if w.length ≤ 5 then (Lib.atoi w).bind fun n => if Lib.itoa n = w then some n else none else none
def numB (w : Str) : Bool := (numO w).isSome
def numN (w : Str) : Int := (numO w).getD 0
theorem numO_of {w : Str} {n : Int} (h : numO w = some n) : w.length ≤ 5 ∧ Lib.itoa n = w := by
  unfold numO at h
  split at h
  · rename_i h1
    cases ha : Lib.atoi w with
    | none => rw [ha] at h; cases h
    | some m =>
      rw [ha] at h
      have h : (if Lib.itoa m = w then some m else none) = some n := h
      split at h
      · cases h; exact ⟨h1, by assumption⟩
      · cases h
  · cases h
theorem numO_t {w : Str} {n : Int} (h1 : w.length ≤ 5) (h2 : Lib.itoa n = w) : numO w = some n := by
  have h3 : Lib.atoi w = some n := by rw [← h2]; exact atoi_itoa n
  rw [numO, if_pos h1, h3]
  show (if Lib.itoa n = w then some n else none) = some n
  rw [if_pos h2]
theorem num_t {w : Str} {n : Int} (h1 : w.length ≤ 5) (h2 : Lib.itoa n = w) : numB w = true ∧ numN w = n := by
  rw [numB, numN, numO_t h1 h2]; exact ⟨rfl, rfl⟩
theorem num_f {w : Str} (h : w.length ≤ 5 → ∀ n, Lib.itoa n ≠ w) : numB w = false ∧ numN w = 0 := by
  have : numO w = none := by
    cases hn : numO w with
    | none => rfl
    | some n => obtain ⟨a, b⟩ := numO_of hn; exact absurd b (h a n)
  rw [numB, numN, this]; exact ⟨rfl, rfl⟩
/-- What the reference reads: digits, behind a minus sign or not. -/
def vS (l : Str) : Nat := match l with
  | c :: r => if c = 45 then vD 0 r else vD 0 (c :: r)
  | [] => 0
def okS (l : Str) : Prop := ∀ (j : Nat) (c : UInt8), l[j]? = some c → (48 ≤ c.toNat ∧ c.toNat ≤ 57) ∨ (j = 0 ∧ c = 45)
theorem vS_snoc {l : Str} {c : UInt8} (h : 48 ≤ c.toNat) : vS (l ++ [c]) = vS l * 10 + (c.toNat - 48) := by
  have hc : c ≠ 45 := by rintro rfl; exact absurd h (by decide)
  cases l with
  | nil => simp [vS, hc, vD]
  | cons d r =>
    by_cases hd : d = 45
    · simp only [List.cons_append, vS, if_pos hd]; exact vD_snoc
    · simp only [List.cons_append, vS, if_neg hd]
      rw [← List.cons_append, vD_snoc]
theorem vS_itoa (n : Int) : vS (Lib.itoa n) = n.natAbs ∧ okS (Lib.itoa n) ∧ ((Lib.itoa n)[0]? = some 45 ↔ n < 0) := by
  by_cases h : 0 ≤ n
  · obtain ⟨u, rfl⟩ : ∃ u : Nat, n = (u : Int) := ⟨n.toNat, by omega⟩
    rw [itoa_pos]
    have hl := dec_lowD u (Nat.le_refl _)
    refine ⟨?_, fun j c hj => .inl (hl c (List.mem_of_getElem? hj)), fun h0 => ?_, fun h0 => by omega⟩
    · cases hd : Lib.decDigits u with
      | nil => exact absurd hd dec_ne
      | cons c r =>
        have hc : c ≠ 45 := by
          have := hl c (by rw [hd]; exact .head _)
          rintro rfl; exact absurd this (by decide)
        have hv := vD_dec u (u := u) (Nat.le_refl _)
        rw [hd] at hv
        simp only [vS, if_neg hc, hv]; omega
    · exact absurd (hl 45 (List.mem_of_getElem? h0)) (by decide)
  · obtain ⟨u, rfl⟩ : ∃ u : Nat, n = -(u : Int) := ⟨n.natAbs, by omega⟩
    rw [itoa_neg (by omega)]
    have hl := dec_lowD u (Nat.le_refl _)
    refine ⟨?_, fun j c hj => ?_, fun _ => by omega, fun _ => rfl⟩
    · simp only [vS, if_pos trivial]
      rw [vD_dec u (Nat.le_refl _)]; omega
    · cases j with
      | zero => simp at hj; exact .inr ⟨rfl, hj.symm⟩
      | succ j => exact .inl (hl c (List.mem_of_getElem? (by simpa using hj)))
theorem num_bad {w : Str} {j : Nat} {c : UInt8} (hj : w[j]? = some c) (h1 : ¬ (48 ≤ c.toNat ∧ c.toNat ≤ 57)) (h2 : ¬ (j = 0 ∧ c = 45)) : numB w = false ∧ numN w = 0 :=
  num_f fun _ n hn => by
    rcases (vS_itoa n).2.1 j c (hn ▸ hj) with h | h
    · exact h1 h
    · exact h2 h
theorem split_spl {c : UInt8} : ∀ (n : Nat) {s : Str}, s.length ≤ n → Lib.splitK [c] 0 (s.count c) s = spl c s
  | n, s, hn => by
    by_cases h : c ∈ s
    · obtain ⟨x, r, rfl, hx⟩ := cut_at h
      have hi : Lib.index (x ++ c :: r) [c] = (x.length : Int) := by
        rw [Lib.index_one]
        clear hn h
        induction x with
        | nil => simp [Lib.indexByte]
        | cons a x ih =>
          have h1 : (a == c) = false := by simp only [beq_eq_false_iff_ne]; rintro rfl; exact hx (.head _)
          have h2 := ih (fun hm => hx (.tail _ hm))
          have h3 : ((x.length : Int) == -1) = false := by simp only [beq_eq_false_iff_ne]; omega
          simp [Lib.indexByte, h1, h2, h3]
      have hcnt : (x ++ c :: r).count c = r.count c + 1 := by
        rw [List.count_append, List.count_eq_zero.2 hx, List.count_cons]; simp
      rw [hcnt, Lib.splitK, hi]
      have h0 : ((x.length : Int) == -1) = false := by simp only [beq_eq_false_iff_ne]; omega
      rw [h0, spl_cut hx]
      simp only [Bool.false_eq_true, if_false, Int.toNat_natCast, Nat.add_zero, List.length_singleton]
      rw [List.take_left' rfl, show x ++ c :: r = (x ++ [c]) ++ r by simp, List.drop_left' (by simp)]
      cases n with
      | zero => simp at hn
      | succ n => rw [split_spl n (by simp at hn; omega)]
    · rw [List.count_eq_zero.2 h, spl_none h]; rfl
end Go.Proofs.YtfoecgfboicphaaGreatDoor
/-
  strconv.Atoi and strings.Split at this program: as the shelf's tools wrote it, under names of ours.
-/
namespace Go.Proofs.YtfoecgfboicphaaGreatDoor
open Go.Shelf Go.RowKit
def lays172_ren : Go.Shelf.Ren := ⟨fun | 172 => 57 | 244 => 82 | 245 => 83 | 247 => 109 | 279 => 110 | 280 => 111 | 281 => 112 | 282 => 113 | 287 => 126 | 316 => 127 | 171 => 37 | 205 => 128 | 321 => 135 | 322 => 136 | 243 => 60 | 246 => 84 | 283 => 114 | 284 => 115 | 285 => 116 | 286 => 117 | 129 => 130 | 317 => 129 | 318 => 131 | 319 => 132 | 320 => 133 | 337 => 137 | 338 => 138 | n => n, fun | 9 => 9 | 3 => 3 | 75 => 52 | 76 => 53 | 4 => 4 | 5 => 5 | 167 => 121 | 37 => 22 | 0 => 0 | 85 => 122 | 2 => 2 | 168 => 124 | 53 => 128 | 175 => 138 | 46 => 111 | 210 => 141 | 127 => 81 | 145 => 154 | 143 => 152 | 21 => 21 | 171 => 127 | 173 => 131 | 212 => 144 | 51 => 133 | 20 => 20 | 213 => 145 | 232 => 156 | 233 => 157 | 80 => 56 | n => n, fun | 15 => 1 | 16 => 2 | 17 => 3 | 18 => 6 | 19 => 7 | n => n⟩
theorem lays172 : Go.Proofs.Lays.n172 Tryz.prog lays172_ren := {
  mixed := by kernel_rfl
  f129 := Tryz.func130.trans (congrArg some (by kernel_rfl))
  f171 := Tryz.func37.trans (congrArg some (by kernel_rfl))
  f172 := Tryz.func57.trans (congrArg some (by kernel_rfl))
  f205 := Tryz.func128.trans (congrArg some (by kernel_rfl))
  f243 := Tryz.func60.trans (congrArg some (by kernel_rfl))
  f244 := Tryz.func82.trans (congrArg some (by kernel_rfl))
  f245 := Tryz.func83.trans (congrArg some (by kernel_rfl))
  f246 := Tryz.func84.trans (congrArg some (by kernel_rfl))
  f247 := Tryz.func109.trans (congrArg some (by kernel_rfl))
  f279 := Tryz.func110.trans (congrArg some (by kernel_rfl))
  f280 := Tryz.func111.trans (congrArg some (by kernel_rfl))
  f281 := Tryz.func112.trans (congrArg some (by kernel_rfl))
  f282 := Tryz.func113.trans (congrArg some (by kernel_rfl))
  f283 := Tryz.func114.trans (congrArg some (by kernel_rfl))
  f284 := Tryz.func115.trans (congrArg some (by kernel_rfl))
  f285 := Tryz.func116.trans (congrArg some (by kernel_rfl))
  f286 := Tryz.func117.trans (congrArg some (by kernel_rfl))
  f287 := Tryz.func126.trans (congrArg some (by kernel_rfl))
  f316 := Tryz.func127.trans (congrArg some (by kernel_rfl))
  f317 := Tryz.func129.trans (congrArg some (by kernel_rfl))
  f318 := Tryz.func131.trans (congrArg some (by kernel_rfl))
  f319 := Tryz.func132.trans (congrArg some (by kernel_rfl))
  f320 := Tryz.func133.trans (congrArg some (by kernel_rfl))
  f321 := Tryz.func135.trans (congrArg some (by kernel_rfl))
  f322 := Tryz.func136.trans (congrArg some (by kernel_rfl))
  f337 := Tryz.func137.trans (congrArg some (by kernel_rfl))
  f338 := Tryz.func138.trans (congrArg some (by kernel_rfl))
  t0 := Tryz.underlying0
  a0 := Tryz.isAgg0
  z0 := Tryz.sizeOf0
  v0 := Tryz.zeroValue0
  t2 := Tryz.underlying2
  a2 := Tryz.isAgg2
  z2 := Tryz.sizeOf2
  v2 := Tryz.zeroValue2
  t3 := Tryz.underlying3
  a3 := Tryz.isAgg3
  z3 := Tryz.sizeOf3
  v3 := Tryz.zeroValue3
  t4 := Tryz.underlying4
  a4 := Tryz.isAgg4
  z4 := Tryz.sizeOf4
  v4 := Tryz.zeroValue4
  t5 := Tryz.underlying5
  a5 := Tryz.isAgg5
  z5 := Tryz.sizeOf5
  v5 := Tryz.zeroValue5
  t9 := Tryz.underlying9
  a9 := Tryz.isAgg9
  z9 := Tryz.sizeOf9
  v9 := Tryz.zeroValue9
  t20 := Tryz.underlying20
  a20 := Tryz.isAgg20
  z20 := Tryz.sizeOf20
  v20 := Tryz.zeroValue20
  t21 := Tryz.underlying21
  a21 := Tryz.isAgg21
  z21 := Tryz.sizeOf21
  v21 := Tryz.zeroValue21
  t37 := Tryz.underlying22
  a37 := Tryz.isAgg22
  z37 := Tryz.sizeOf22
  v37 := Tryz.zeroValue22
  t46 := Tryz.underlying111
  a46 := Tryz.isAgg111
  z46 := Tryz.sizeOf111
  v46 := Tryz.zeroValue111
  t51 := Tryz.underlying133
  a51 := Tryz.isAgg133
  z51 := Tryz.sizeOf133
  v51 := Tryz.zeroValue133
  t53 := Tryz.underlying128
  a53 := Tryz.isAgg128
  z53 := Tryz.sizeOf128
  v53 := Tryz.zeroValue128
  t75 := Tryz.underlying52
  a75 := Tryz.isAgg52
  z75 := Tryz.sizeOf52
  v75 := Tryz.zeroValue52
  t76 := Tryz.underlying53
  a76 := Tryz.isAgg53
  z76 := Tryz.sizeOf53
  v76 := Tryz.zeroValue53
  t85 := Tryz.underlying122
  a85 := Tryz.isAgg122
  z85 := Tryz.sizeOf122
  v85 := Tryz.zeroValue122
  t127 := Tryz.underlying81
  a127 := Tryz.isAgg81
  z127 := Tryz.sizeOf81
  v127 := Tryz.zeroValue81
  t143 := Tryz.underlying152
  a143 := Tryz.isAgg152
  z143 := Tryz.sizeOf152
  v143 := Tryz.zeroValue152
  t145 := Tryz.underlying154
  a145 := Tryz.isAgg154
  z145 := Tryz.sizeOf154
  v145 := Tryz.zeroValue154
  t167 := Tryz.underlying121
  a167 := Tryz.isAgg121
  z167 := Tryz.sizeOf121
  v167 := Tryz.zeroValue121
  t168 := Tryz.underlying124
  a168 := Tryz.isAgg124
  z168 := Tryz.sizeOf124
  v168 := Tryz.zeroValue124
  t171 := Tryz.underlying127
  a171 := Tryz.isAgg127
  z171 := Tryz.sizeOf127
  v171 := Tryz.zeroValue127
  t173 := Tryz.underlying131
  a173 := Tryz.isAgg131
  z173 := Tryz.sizeOf131
  v173 := Tryz.zeroValue131
  t175 := Tryz.underlying138
  a175 := Tryz.isAgg138
  z175 := Tryz.sizeOf138
  v175 := Tryz.zeroValue138
  t210 := Tryz.underlying141
  a210 := Tryz.isAgg141
  z210 := Tryz.sizeOf141
  v210 := Tryz.zeroValue141
  t212 := Tryz.underlying144
  a212 := Tryz.isAgg144
  z212 := Tryz.sizeOf144
  v212 := Tryz.zeroValue144
  t213 := Tryz.underlying145
  a213 := Tryz.isAgg145
  z213 := Tryz.sizeOf145
  t232 := Tryz.underlying156
  a232 := Tryz.isAgg156
  z232 := Tryz.sizeOf156
  v232 := Tryz.zeroValue156
  t233 := Tryz.underlying157
  a233 := Tryz.isAgg157
  z233 := Tryz.sizeOf157
  v233 := Tryz.zeroValue157
  g15 := by kernel_rfl
  g16 := by kernel_rfl
  g17 := by kernel_rfl
  g18 := by kernel_rfl
  g19 := by kernel_rfl }
theorem strconv_Atoi (s : ByteArray) (n : Int) (hl : s.size ≤ 18) (h : Lib.atoi s.data.toList = some n) (w : World) :
    Calls Tryz.prog 57 #[.string s] w fun e w' => e = .returned (.tuple #[.int .i64 n, .nilIface]) ∧ ∃ t, w' = Lib.bytesWorld w 5 t := Any.strconv_Atoi lays172 s n hl h w
def laysC172_ren : Go.Shelf.Ren := ⟨fun | 172 => 57 | 244 => 82 | 245 => 83 | 247 => 109 | 279 => 110 | 280 => 111 | 281 => 112 | 282 => 113 | 287 => 126 | 316 => 127 | 171 => 37 | 205 => 128 | 321 => 135 | 322 => 136 | 243 => 60 | 246 => 84 | 283 => 114 | 284 => 115 | 285 => 116 | 286 => 117 | 129 => 130 | 317 => 129 | 318 => 131 | 319 => 132 | 320 => 133 | 337 => 137 | 338 => 138 | n => n, fun | 9 => 9 | 3 => 3 | 75 => 52 | 76 => 53 | 4 => 4 | 5 => 5 | 167 => 121 | 37 => 22 | 0 => 0 | 85 => 122 | 2 => 2 | 168 => 124 | 53 => 128 | 175 => 138 | 46 => 111 | 210 => 141 | 127 => 81 | 145 => 154 | 143 => 152 | 21 => 21 | 171 => 127 | 173 => 131 | 212 => 144 | 51 => 133 | 20 => 20 | 213 => 145 | 232 => 156 | 233 => 157 | 80 => 56 | n => n, fun | 15 => 1 | 16 => 2 | 17 => 3 | 18 => 6 | 19 => 7 | n => n⟩
theorem laysC172 : Go.Proofs.LaysC.n172 Tryz.prog laysC172_ren := {
  mixed := by kernel_rfl
  f129 := Tryz.func130.trans (congrArg some (by kernel_rfl))
  f171 := Tryz.func37.trans (congrArg some (by kernel_rfl))
  f172 := Tryz.func57.trans (congrArg some (by kernel_rfl))
  f205 := Tryz.func128.trans (congrArg some (by kernel_rfl))
  f243 := Tryz.func60.trans (congrArg some (by kernel_rfl))
  f244 := Tryz.func82.trans (congrArg some (by kernel_rfl))
  f245 := Tryz.func83.trans (congrArg some (by kernel_rfl))
  f246 := Tryz.func84.trans (congrArg some (by kernel_rfl))
  f247 := Tryz.func109.trans (congrArg some (by kernel_rfl))
  f279 := Tryz.func110.trans (congrArg some (by kernel_rfl))
  f280 := Tryz.func111.trans (congrArg some (by kernel_rfl))
  f281 := Tryz.func112.trans (congrArg some (by kernel_rfl))
  f282 := Tryz.func113.trans (congrArg some (by kernel_rfl))
  f283 := Tryz.func114.trans (congrArg some (by kernel_rfl))
  f284 := Tryz.func115.trans (congrArg some (by kernel_rfl))
  f285 := Tryz.func116.trans (congrArg some (by kernel_rfl))
  f286 := Tryz.func117.trans (congrArg some (by kernel_rfl))
  f287 := Tryz.func126.trans (congrArg some (by kernel_rfl))
  f316 := Tryz.func127.trans (congrArg some (by kernel_rfl))
  f317 := Tryz.func129.trans (congrArg some (by kernel_rfl))
  f318 := Tryz.func131.trans (congrArg some (by kernel_rfl))
  f319 := Tryz.func132.trans (congrArg some (by kernel_rfl))
  f320 := Tryz.func133.trans (congrArg some (by kernel_rfl))
  f321 := Tryz.func135.trans (congrArg some (by kernel_rfl))
  f322 := Tryz.func136.trans (congrArg some (by kernel_rfl))
  f337 := Tryz.func137.trans (congrArg some (by kernel_rfl))
  f338 := Tryz.func138.trans (congrArg some (by kernel_rfl))
  t0 := Tryz.underlying0
  a0 := Tryz.isAgg0
  z0 := Tryz.sizeOf0
  v0 := Tryz.zeroValue0
  t2 := Tryz.underlying2
  a2 := Tryz.isAgg2
  z2 := Tryz.sizeOf2
  v2 := Tryz.zeroValue2
  t3 := Tryz.underlying3
  a3 := Tryz.isAgg3
  z3 := Tryz.sizeOf3
  v3 := Tryz.zeroValue3
  t4 := Tryz.underlying4
  a4 := Tryz.isAgg4
  z4 := Tryz.sizeOf4
  v4 := Tryz.zeroValue4
  t5 := Tryz.underlying5
  a5 := Tryz.isAgg5
  z5 := Tryz.sizeOf5
  v5 := Tryz.zeroValue5
  t9 := Tryz.underlying9
  a9 := Tryz.isAgg9
  z9 := Tryz.sizeOf9
  v9 := Tryz.zeroValue9
  t20 := Tryz.underlying20
  a20 := Tryz.isAgg20
  z20 := Tryz.sizeOf20
  v20 := Tryz.zeroValue20
  t21 := Tryz.underlying21
  a21 := Tryz.isAgg21
  z21 := Tryz.sizeOf21
  v21 := Tryz.zeroValue21
  t37 := Tryz.underlying22
  a37 := Tryz.isAgg22
  z37 := Tryz.sizeOf22
  v37 := Tryz.zeroValue22
  t46 := Tryz.underlying111
  a46 := Tryz.isAgg111
  z46 := Tryz.sizeOf111
  v46 := Tryz.zeroValue111
  t51 := Tryz.underlying133
  a51 := Tryz.isAgg133
  z51 := Tryz.sizeOf133
  v51 := Tryz.zeroValue133
  t53 := Tryz.underlying128
  a53 := Tryz.isAgg128
  z53 := Tryz.sizeOf128
  v53 := Tryz.zeroValue128
  t75 := Tryz.underlying52
  a75 := Tryz.isAgg52
  z75 := Tryz.sizeOf52
  v75 := Tryz.zeroValue52
  t76 := Tryz.underlying53
  a76 := Tryz.isAgg53
  z76 := Tryz.sizeOf53
  v76 := Tryz.zeroValue53
  t85 := Tryz.underlying122
  a85 := Tryz.isAgg122
  z85 := Tryz.sizeOf122
  v85 := Tryz.zeroValue122
  t127 := Tryz.underlying81
  a127 := Tryz.isAgg81
  z127 := Tryz.sizeOf81
  v127 := Tryz.zeroValue81
  t143 := Tryz.underlying152
  a143 := Tryz.isAgg152
  z143 := Tryz.sizeOf152
  v143 := Tryz.zeroValue152
  t145 := Tryz.underlying154
  a145 := Tryz.isAgg154
  z145 := Tryz.sizeOf154
  v145 := Tryz.zeroValue154
  t167 := Tryz.underlying121
  a167 := Tryz.isAgg121
  z167 := Tryz.sizeOf121
  v167 := Tryz.zeroValue121
  t168 := Tryz.underlying124
  a168 := Tryz.isAgg124
  z168 := Tryz.sizeOf124
  v168 := Tryz.zeroValue124
  t171 := Tryz.underlying127
  a171 := Tryz.isAgg127
  z171 := Tryz.sizeOf127
  v171 := Tryz.zeroValue127
  t173 := Tryz.underlying131
  a173 := Tryz.isAgg131
  z173 := Tryz.sizeOf131
  v173 := Tryz.zeroValue131
  t175 := Tryz.underlying138
  a175 := Tryz.isAgg138
  z175 := Tryz.sizeOf138
  v175 := Tryz.zeroValue138
  t210 := Tryz.underlying141
  a210 := Tryz.isAgg141
  z210 := Tryz.sizeOf141
  v210 := Tryz.zeroValue141
  t212 := Tryz.underlying144
  a212 := Tryz.isAgg144
  z212 := Tryz.sizeOf144
  v212 := Tryz.zeroValue144
  t213 := Tryz.underlying145
  a213 := Tryz.isAgg145
  z213 := Tryz.sizeOf145
  t232 := Tryz.underlying156
  a232 := Tryz.isAgg156
  z232 := Tryz.sizeOf156
  v232 := Tryz.zeroValue156
  t233 := Tryz.underlying157
  a233 := Tryz.isAgg157
  z233 := Tryz.sizeOf157
  v233 := Tryz.zeroValue157
  g15 := by kernel_rfl
  g16 := by kernel_rfl
  g17 := by kernel_rfl
  g18 := by kernel_rfl
  g19 := by kernel_rfl
  t80 := Tryz.underlying56
  a80 := Tryz.isAgg56
  z80 := Tryz.sizeOf56
  v80 := Tryz.zeroValue56
  i0 := by kernel_rfl
  i2 := by kernel_rfl
  i3 := by kernel_rfl
  i4 := by kernel_rfl
  i5 := by kernel_rfl
  i9 := by kernel_rfl
  i20 := by kernel_rfl
  i21 := by kernel_rfl
  i37 := by kernel_rfl
  i46 := by kernel_rfl
  i51 := by kernel_rfl
  i53 := by kernel_rfl
  i75 := by kernel_rfl
  i76 := by kernel_rfl
  i80 := by kernel_rfl
  i85 := by kernel_rfl
  i127 := by kernel_rfl
  i143 := by kernel_rfl
  i145 := by kernel_rfl
  i167 := by kernel_rfl
  i168 := by kernel_rfl
  i171 := by kernel_rfl
  i173 := by kernel_rfl
  i175 := by kernel_rfl
  i210 := by kernel_rfl
  i212 := by kernel_rfl
  i232 := by kernel_rfl
  i233 := by kernel_rfl
  m15 := by kernel_rfl
  m16 := by kernel_rfl
  m17 := by kernel_rfl
  m18 := by kernel_rfl
  m19 := by kernel_rfl
  c0 := by kernel_rfl
  c2 := by kernel_rfl
  c3 := by kernel_rfl
  c4 := by kernel_rfl
  c5 := by kernel_rfl
  c9 := by kernel_rfl
  c20 := by kernel_rfl
  c21 := by kernel_rfl
  c37 := by kernel_rfl
  c46 := by kernel_rfl
  c51 := by kernel_rfl
  c53 := by kernel_rfl
  c75 := by kernel_rfl
  c76 := by kernel_rfl
  c80 := by kernel_rfl
  c85 := by kernel_rfl
  c127 := by kernel_rfl
  c143 := by kernel_rfl
  c145 := by kernel_rfl
  c167 := by kernel_rfl
  c168 := by kernel_rfl
  c171 := by kernel_rfl
  c173 := by kernel_rfl
  c175 := by kernel_rfl
  c210 := by kernel_rfl
  c212 := by kernel_rfl
  c213 := by kernel_rfl
  c232 := by kernel_rfl
  c233 := by kernel_rfl }
theorem strconv_Atoi_err (s : ByteArray) (hl : s.size ≤ 18) (h : Lib.atoi s.data.toList = none) (ev : Value) (w : World) (hv : w.cell? ⟨1, 0, none⟩ = some ev) (hev : ev = .nilIface ∨ ∃ te pe, ev = .iface te pe) :
    Calls Tryz.prog 57 #[.string s] w fun e w' => ∃ N, e = .returned (.tuple #[.int .i64 0, .iface 124 (.pointer (some ⟨N, 0, none⟩))]) ∧ w.heap.size ≤ N ∧ w'.heap[N]? = some (.cells #[.string ⟨#[65, 116, 111, 105]⟩, .string s, ev] 141 (0, 0)) ∧ Below w.heap.size w w' := Any.strconv_Atoi_err laysC172 s hl h ev w hv hev
def lays146_ren : Go.Shelf.Ren := ⟨fun | 146 => 33 | 221 => 55 | 268 => 79 | 138 => 80 | 143 => 81 | 195 => 106 | 197 => 107 | 218 => 108 | 219 => 62 | 260 => 125 | 217 => 87 | 225 => 88 | 224 => 89 | 267 => 90 | 266 => 118 | 314 => 119 | n => n, fun | 9 => 9 | 31 => 23 | 3 => 3 | 4 => 4 | 0 => 0 | 105 => 119 | 21 => 21 | 5 => 5 | 46 => 111 | 119 => 147 | 139 => 150 | 138 => 149 | 146 => 134 | 51 => 133 | n => n, fun | 1 => 0 | 3 => 4 | 4 => 5 | n => n⟩
theorem lays146 : Go.Proofs.Lays.n146 Tryz.prog lays146_ren := {
  mixed := by kernel_rfl
  f138 := Tryz.func80.trans (congrArg some (by kernel_rfl))
  f143 := Tryz.func81.trans (congrArg some (by kernel_rfl))
  f146 := Tryz.func33.trans (congrArg some (by kernel_rfl))
  f195 := Tryz.func106.trans (congrArg some (by kernel_rfl))
  f197 := Tryz.func107.trans (congrArg some (by kernel_rfl))
  f217 := Tryz.func87.trans (congrArg some (by kernel_rfl))
  f218 := Tryz.func108.trans (congrArg some (by kernel_rfl))
  f219 := Tryz.func62.trans (congrArg some (by kernel_rfl))
  f221 := Tryz.func55.trans (congrArg some (by kernel_rfl))
  f224 := Tryz.func89.trans (congrArg some (by kernel_rfl))
  f225 := Tryz.func88.trans (congrArg some (by kernel_rfl))
  f260 := Tryz.func125.trans (congrArg some (by kernel_rfl))
  f266 := Tryz.func118.trans (congrArg some (by kernel_rfl))
  f267 := Tryz.func90.trans (congrArg some (by kernel_rfl))
  f268 := Tryz.func79.trans (congrArg some (by kernel_rfl))
  f314 := Tryz.func119.trans (congrArg some (by kernel_rfl))
  t0 := Tryz.underlying0
  a0 := Tryz.isAgg0
  z0 := Tryz.sizeOf0
  v0 := Tryz.zeroValue0
  t3 := Tryz.underlying3
  a3 := Tryz.isAgg3
  z3 := Tryz.sizeOf3
  v3 := Tryz.zeroValue3
  t4 := Tryz.underlying4
  a4 := Tryz.isAgg4
  z4 := Tryz.sizeOf4
  v4 := Tryz.zeroValue4
  t5 := Tryz.underlying5
  a5 := Tryz.isAgg5
  z5 := Tryz.sizeOf5
  v5 := Tryz.zeroValue5
  t9 := Tryz.underlying9
  a9 := Tryz.isAgg9
  z9 := Tryz.sizeOf9
  v9 := Tryz.zeroValue9
  t21 := Tryz.underlying21
  a21 := Tryz.isAgg21
  z21 := Tryz.sizeOf21
  v21 := Tryz.zeroValue21
  t31 := Tryz.underlying23
  a31 := Tryz.isAgg23
  z31 := Tryz.sizeOf23
  v31 := Tryz.zeroValue23
  t46 := Tryz.underlying111
  a46 := Tryz.isAgg111
  z46 := Tryz.sizeOf111
  v46 := Tryz.zeroValue111
  t51 := Tryz.underlying133
  a51 := Tryz.isAgg133
  z51 := Tryz.sizeOf133
  v51 := Tryz.zeroValue133
  t105 := Tryz.underlying119
  a105 := Tryz.isAgg119
  z105 := Tryz.sizeOf119
  v105 := Tryz.zeroValue119
  t119 := Tryz.underlying147
  a119 := Tryz.isAgg147
  z119 := Tryz.sizeOf147
  t138 := Tryz.underlying149
  a138 := Tryz.isAgg149
  z138 := Tryz.sizeOf149
  v138 := Tryz.zeroValue149
  t139 := Tryz.underlying150
  a139 := Tryz.isAgg150
  z139 := Tryz.sizeOf150
  v139 := Tryz.zeroValue150
  t146 := Tryz.underlying134
  a146 := Tryz.isAgg134
  z146 := Tryz.sizeOf134
  v146 := Tryz.zeroValue134
  g1 := by kernel_rfl
  g3 := by kernel_rfl
  g4 := by kernel_rfl }
theorem strings_Split (s sep : ByteArray) (m : Int) (w : World) (hs : s.size < 4294967281) (hm : w.cell? ⟨0, 0, none⟩ = some (.int .i64 m)) (h1 : 1 ≤ sep.size) :
    Calls Tryz.prog 33 #[.string s, .string sep] w fun e w' =>
      e = .returned (.slice (some ⟨w.heap.size, 0, none⟩) (Lib.countB s sep + 1) (Lib.countB s sep + 1)) ∧ w' = w.alloc (.cells ((Lib.splitB sep 0 (Lib.countB s sep) s).map Value.string).toArray 9) := Any.strings_Split lays146 (by kernel_rfl) s sep m w hs hm h1
end Go.Proofs.YtfoecgfboicphaaGreatDoor

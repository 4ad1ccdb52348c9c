/- Texts: W103 W104 W17 W63 -/
import Derived.Test.YtfoecgfboicphaaGreatDoorCL12
import Derived.Lib.SmallJoins
import Derived.Lib.AtoiBound
import Derived.WideLaws
import Derived.Test.YtfoecgfboicphaaGreatDoorCL8
import Derived.Test.YtfoecgfboicphaaGreatDoorCL11
import Derived.Test.YtfoecgfboicphaaGreatDoorCL9
/-
  Words, and numbers of words: the program's.
-/
namespace Go.Proofs.YtfoecgfboicphaaGreatDoor
open Go.RowKit
set_option linter.unusedVariables false
set_option linter.unusedSimpArgs false
attribute [local irreducible] AL AW OpX Le AD

theorem str_of {ρ : Nat → Value} {Z : Nat → Prop} {w : World} {s : Str} {u : Value} (h : DR ρ Z w (rStr s) u) : u = .string ⟨s.toArray⟩ := by
  have h : DC Z w (.raw (.string ⟨s.toArray⟩)) u := h
  cases h; rfl
theorem strs_row {Z : Nat → Prop} {w : World} {e : TypeId} {L : List Str} {b : Nat} (hb : w.heap[b]? = some (.cells (L.map fun s => Value.string ⟨s.toArray⟩).toArray e (0, 0))) (hz : Z b) (hL : L.length ≤ maxLen) (hn : 0 < L.length) :
    DC Z w (.sl 1 (stRs L)) (.slice (some ⟨b, 0, none⟩) L.length L.length) := by
  have hfl : (stRs L).flatten = L.map fun s => CV.raw (.string ⟨s.toArray⟩) := by
    clear hL hn hb
    induction L with
    | nil => rfl
    | cons x L ih =>
      show stR x ++ (stRs L).flatten = _
      rw [ih]; rfl
  refine .sl 1 (stRs L) b 0 L.length L.length (L.map fun s => Value.string ⟨s.toArray⟩) (by simp [stRs]) (fun r hr => ?_) hz (Nat.le_refl _) hL (by rw [hfl]; simp) (fun k u hu => ?_) fun k h h' => ?_
  · obtain ⟨x, _, rfl⟩ := List.mem_map.1 hr
    rfl
  · rw [Nat.zero_add]
    unfold World.cell?
    simp only [hb]
    simpa using hu
  · simp only [hfl, List.getElem_map]
    exact .raw _ rfl
theorem spl_count {c : UInt8} : ∀ {s : Str}, (spl c s).length = s.count c + 1
  | [] => rfl
  | a :: s => by
    have ih := spl_count (c := c) (s := s)
    by_cases h : a = c
    · subst h
      rw [show a :: s = [] ++ a :: s from rfl, spl_cut (by simp)]
      simp [ih]
    · rw [List.count_cons_of_ne h]
      simp only [spl, if_neg h]
      split
      · rename_i e; rw [e] at ih; simpa using ih
      · rename_i e; exact absurd e spl_ne
theorem spl_leW {c : UInt8} : ∀ {s : Str}, ∀ x ∈ spl c s, x.length ≤ s.length
  | [], x, hx => by simp [spl] at hx; subst hx; simp
  | a :: s, x, hx => by
    have ih := spl_leW (c := c) (s := s)
    by_cases h : a = c
    · simp only [spl, if_pos h] at hx
      rcases List.mem_cons.1 hx with rfl | hx
      · simp
      · have := ih x hx; rw [List.length_cons]; omega
    · simp only [spl, if_neg h] at hx
      split at hx
      · rename_i p ps e
        rcases List.mem_cons.1 hx with rfl | hx
        · have := ih p (by rw [e]; exact .head _); simp only [List.length_cons]; omega
        · have := ih x (by rw [e]; exact .tail _ hx); simp only [List.length_cons]; omega
      · rename_i e; exact absurd e spl_ne
theorem spl_lenW {c : UInt8} {s : Str} : (spl c s).length ≤ s.length + 1 := by
  have := List.count_le_length (a := c) (l := s)
  rw [spl_count]; omega
theorem split_vals (s : Str) : (Lib.splitB ⟨#[32]⟩ 0 (Lib.countB ⟨s.toArray⟩ ⟨#[32]⟩) ⟨s.toArray⟩).map Value.string = (spl 32 s).map fun x => Value.string ⟨x.toArray⟩ := by
  have h1 := Lib.splitB_data ⟨#[32]⟩ 0 (Lib.countB ⟨s.toArray⟩ ⟨#[32]⟩) ⟨s.toArray⟩
  have h2 : Lib.countB ⟨s.toArray⟩ ⟨#[32]⟩ = s.count 32 := by
    show Lib.count s [32] = _
    exact Lib.count_one 32 s
  rw [h2] at h1 ⊢
  have h3 : (Lib.splitB ⟨#[32]⟩ 0 (s.count 32) ⟨s.toArray⟩).map (·.data.toList) = spl 32 s := by
    rw [h1]
    exact split_spl s.length (Nat.le_refl _)
  rw [← h3, List.map_map]
  exact List.map_congr_left fun x _ => rfl
theorem c_Split (s : Str) (hs : s.length ≤ 4000000000) : Con Tryz.prog 33 [rStr s, rStr [32]] [] (fun rs all => rs = [slS (spl 32 s)] ∧ all = []) := by
  refine ⟨by kernel_rfl, fun w ρ Z vs he => ?_⟩
  match vs, he.args with
  | [u, v], hd =>
    obtain rfl := str_of hd.1
    obtain rfl := str_of hd.2.1
    obtain ⟨_, _, h0, cs, t, fr, m, rfl, hm⟩ := he.gl ⟨0, okMax⟩ (.head _)
    have hcell : w.cell? ⟨0, 0, none⟩ = some (.int .i64 m) := by
      unfold World.cell?
      simp only [h0]
      simpa using hm
    refine (strings_Split ⟨s.toArray⟩ ⟨#[32]⟩ m w (by show s.toArray.size < _; simp; omega) hcell (by decide)).mono ?_
    rintro e w' ⟨rfl, rfl⟩
    rw [split_vals]
    have hc : Lib.countB ⟨s.toArray⟩ ⟨#[32]⟩ + 1 = (spl 32 s).length := by
      rw [spl_count, show Lib.countB ⟨s.toArray⟩ ⟨#[32]⟩ = s.count 32 from Lib.count_one 32 s]
    rw [hc]
    have hsz : (w.alloc (.cells ((spl 32 s).map fun x => Value.string ⟨x.toArray⟩).toArray 9)).heap.size = w.heap.size + 1 := Array.size_push _
    have hold : ∀ g, g < w.heap.size → (w.alloc (.cells ((spl 32 s).map fun x => Value.string ⟨x.toArray⟩).toArray 9)).heap[g]? = w.heap[g]? := fun g hg => by
      show (w.heap.push _)[g]? = _
      rw [Array.getElem?_push_lt hg, Array.getElem?_eq_getElem hg]
    have hnew : (w.alloc (.cells ((spl 32 s).map fun x => Value.string ⟨x.toArray⟩).toArray 9)).heap[w.heap.size]? = some (.cells ((spl 32 s).map fun x => Value.string ⟨x.toArray⟩).toArray 9 (0, 0)) := by
      show (w.heap.push _)[w.heap.size]? = _
      simp
    refine ⟨[slS (spl 32 s)], [], [_], ρ, fun g => Z g ∨ g = w.heap.size, ⟨rfl, rfl⟩, Nat.le_refl _, rfl, ?_⟩
    exact ⟨⟨strs_row hnew (.inr rfl) (by have := spl_lenW (c := 32) (s := s); unfold maxLen; omega) (List.length_pos_iff.2 spl_ne), trivial⟩, fun i => trivial, fun i hi => rfl, fun i j g hi => by simp [obAt, OB.live] at hi, fun i g hi => by simp [obAt, OB.live] at hi,
      fun g hg => .inl hg, fun g hg => hg.elim .inl fun h => .inr (.inl (by omega)), fun g hg => by
        rw [hsz]
        rcases hg with hg | rfl
        · have := he.zlt g hg; omega
        · omega, ⟨rfl, rfl⟩, rfl, rfl, rfl, by rw [hsz]; omega, fun g hg _ => hold g hg⟩
theorem con_tup2 {f : FuncId} {args : List AR} {n : Int} {Q : Value → Prop} (hok : fnOk Tryz.prog f = true)
    (H : ∀ (w : World) (ρ : Nat → Value) (Z : Nat → Prop) (vs : List Value), DRL ρ Z w args vs → (∀ g, Z g → g < w.heap.size) → Gl Z w → Calls Tryz.prog f vs.toArray w fun e w' => ∃ v, Q v ∧ v.oneCell' = true ∧ e = .returned (.tuple #[.int .i64 n, v]) ∧ Below w.heap.size w w') :
    Con Tryz.prog f args [] (fun rs all => ∃ v, rs = [rI n, .one (.c (.raw v))] ∧ all = [] ∧ noTags rs = true ∧ Q v) :=
  ⟨hok, fun w ρ Z vs he => (H w ρ Z vs he.args he.zlt he.gl).mono fun e w' ⟨v, hq, hv, h1, h2⟩ =>
    ⟨[rI n, .one (.c (.raw v))], [], [.int .i64 n, v], ρ, Z, ⟨v, rfl, rfl, rfl, hq⟩, Nat.le_refl _, h1, by
      exact ⟨⟨.raw _ rfl, .raw _ hv, trivial⟩, fun i => trivial, fun i hi => rfl, fun i j g hi => by simp [obAt, OB.live] at hi, fun i g hi => by simp [obAt, OB.live] at hi, fun g hg => hg, fun g hg => .inl hg,
        fun g hg => Nat.lt_of_lt_of_le (he.zlt g hg) h2.size, ⟨rfl, rfl⟩, h2.os, h2.tape, h2.output, h2.size, fun g hg _ => h2.block g hg⟩⟩⟩
theorem c_Atoi_t (s : Str) (n : Int) (hs : s.length ≤ 5) (h : Lib.atoi s = some n) : Con Tryz.prog 57 [rStr s] [] (fun rs all => ∃ v, rs = [rI n, .one (.c (.raw v))] ∧ all = [] ∧ noTags rs = true ∧ v = .nilIface) := by
  refine con_tup2 (by kernel_rfl) fun w ρ Z vs hd hz hgl => ?_
  match vs, hd with
  | [u], hd =>
    obtain rfl := str_of hd.1
    refine (strconv_Atoi ⟨s.toArray⟩ n (by show s.toArray.size ≤ 18; simp; omega) h w).mono ?_
    rintro e w' ⟨rfl, t, rfl⟩
    exact ⟨_, rfl, rfl, rfl, Go.Joins.below_bytesWorld _ _ _ _ (Nat.le_refl _)⟩
theorem c_Atoi_f (s : Str) (hs : s.length ≤ 5) (h : Lib.atoi s = none) : Con Tryz.prog 57 [rStr s] [] (fun rs all => ∃ v, rs = [rI 0, .one (.c (.raw v))] ∧ all = [] ∧ noTags rs = true ∧ ∃ x, v = .iface 124 x) := by
  refine con_tup2 (by kernel_rfl) fun w ρ Z vs hd hz hgl => ?_
  match vs, hd with
  | [u], hd =>
    obtain rfl := str_of hd.1
    obtain ⟨_, _, h0, cs, t, fr, ev, rfl, hm, hev⟩ := hgl ⟨1, okErr⟩ (.tail _ (.tail _ (.head _)))
    have hcell : w.cell? ⟨1, 0, none⟩ = some ev := by
      unfold World.cell?
      simp only [h0]
      simpa using hm
    refine (strconv_Atoi_err ⟨s.toArray⟩ (by show s.toArray.size ≤ 18; simp; omega) h ev w hcell hev).mono ?_
    rintro e w' ⟨N, rfl, _, _, hb⟩
    exact ⟨_, ⟨_, rfl⟩, rfl, rfl, hb⟩
section
variable {P : Program} {d T : Nat} {x : Operand} {t' ty : TypeId} {pos : String} {af : Array Edge} {gd : Option (Nat × Bool)}
theorem opx_errF (ht : P.underlying T = some (.interface (P.methodsAt T))) : OpX P ⟨some d, .binOp .neq T x (.const .nilIface) t', ty, pos, af, gd⟩ [(x, .raw .nilIface)] [] [] [(d, .b false)] [] :=
  opx_val rfl fun cx S O V a w ρ Z hg hR hO => by
    refine ⟨.bool false, ?_, da_mk rfl, by simp [AV.tags, AR.tags, A1.tag]⟩
    have h := run_neq_nil_nil (P := P) w T ht
    have hx := da_raw (hg.ag hR.1)
    have hn : a.eval (.const .nilIface) = .nilIface := rfl
    simp only [execOp, hx, hn]
    simp [eqGuard, h]
theorem opx_errT {u : TypeId} {v : Value} (ht : P.underlying T = some (.interface (P.methodsAt T))) : OpX P ⟨some d, .binOp .neq T x (.const .nilIface) t', ty, pos, af, gd⟩ [(x, .raw (.iface u v))] [] [] [(d, .b true)] [] :=
  opx_val rfl fun cx S O V a w ρ Z hg hR hO => by
    refine ⟨.bool true, ?_, da_mk rfl, by simp [AV.tags, AR.tags, A1.tag]⟩
    have h := run_neq_held_nil (P := P) w T u v ht
    have hx := da_raw (hg.ag hR.1)
    have hn : a.eval (.const .nilIface) = .nilIface := rfl
    simp only [execOp, hx, hn]
    simp [eqGuard, h]
end
theorem err_und : Tryz.prog.underlying 52 = some (.interface (Tryz.prog.methodsAt 52)) := by kernel_rfl
theorem c_numberOf (s : Str) : Con Tryz.prog 35 [rStr s] [] (fun rs all => rs = [rI (numN s), rB (numB s)] ∧ all = []) := by
  have n1 : (!true) = false := rfl
  have n2 : (!false) = true := rfl
  by_cases h5 : s.length ≤ 5
  · have d5 : decide (5 < (s.length : Int)) = false := decide_eq_false (by omega)
    cases ha : Lib.atoi s with
    | none =>
      obtain ⟨f1, f2⟩ := num_f (w := s) fun _ n hn => by rw [← hn, atoi_itoa] at ha; cases ha
      refine con_of_aw (vars := [.tmp 2, .tmp 3]) [(0, .r (rStr s))] [] 0 Tryz.func35 (by kernel_rfl) rfl Tryz.ntmps35 rfl (by decide) rfl rfl rfl rfl rfl ?_; intro B M w0 ρ0 Z0
      repeat' (first | (refine is_al ?_; (first | (refine is_gd ?_; refine al_off rfl rfl rfl (by assumption) rfl ?_) | (refine is_move ?_; (first | refine al_v (opx_move (.raw _)) ⟨rfl, trivial⟩ trivial rfl ?_ | refine al_v (opx_move (.tup _)) ⟨rfl, trivial⟩ trivial rfl ?_)) | (refine is_bin ?_; refine al_v opx_gtr ⟨rfl, rfl, trivial⟩ trivial rfl ?_) | (refine is_assign ?_; refine al_v (opx_assign (.raw _)) ⟨rfl, trivial⟩ trivial rfl ?_) | (refine is_pick ?_; refine al_v (opx_pick_t (.raw _) rfl) ⟨rfl, rfl, trivial⟩ trivial rfl ?_) | (refine is_bi ?_; refine al_v opx_len_str ⟨rfl, trivial⟩ trivial rfl ?_) | (refine is_call ?_; (refine al_callE (by (repeat (first | exact .nil | refine .one rfl rfl ?_ | refine .froz rfl rfl ?_ | refine .rnil rfl ?_ | refine .agg rfl (by (repeat (first | exact .nil | refine .cons (.same rfl) ?_ | refine .cons (.froz rfl) ?_ | refine .cons (.rnil) ?_)); (first | done | fail)) ?_)); (first | done | fail)) rfl (c_Atoi_f s h5 ha) ?_; rintro v ⟨x, rfl⟩)) | refine al_v (opx_extract _ rfl) ⟨rfl, trivial⟩ trivial rfl ?_ | refine al_nil ?_ | refine al_v (opx_errT err_und) ⟨rfl, trivial⟩ trivial rfl ?_)) | (refine is_ad ?_; refine al_v (opx_errT err_und) ⟨rfl, trivial⟩ trivial rfl ?_) | (refine is_aw ?_; (first | refine aw_seq ?_ | refine aw_region ?_ | refine aw_skip ?_ | refine aw_ret ?_ | (refine is_cond ?_; (first | refine aw_cond_t rfl rfl ?_ | refine aw_cond_f rfl (by assumption) ?_)))) | refine thn_r ?_)
      exact ret_raw2 trivial rfl rfl ⟨by rw [f1, f2], rfl⟩
    | some n =>
      have hb := Lib.atoi_bound ha (by omega)
      by_cases hi : Lib.itoa n = s
      · obtain ⟨f1, f2⟩ := num_t h5 hi
        have e1 : (!decide (Lib.itoa n = s)) = false := by rw [decide_eq_true hi]; rfl
        refine con_of_aw (vars := [.tmp 2, .tmp 3]) [(0, .r (rStr s))] [] 0 Tryz.func35 (by kernel_rfl) rfl Tryz.ntmps35 rfl (by decide) rfl rfl rfl rfl rfl ?_; intro B M w0 ρ0 Z0
        repeat' (first | (refine is_al ?_; (first | (refine is_gd ?_; refine al_on rfl rfl rfl (by assumption) ?_) | (refine is_move ?_; (first | refine al_v (opx_move (.raw _)) ⟨rfl, trivial⟩ trivial rfl ?_ | refine al_v (opx_move (.tup _)) ⟨rfl, trivial⟩ trivial rfl ?_)) | (refine is_bin ?_; (first | refine al_v opx_gtr ⟨rfl, rfl, trivial⟩ trivial rfl ?_ | refine al_v opx_sneq ⟨rfl, rfl, trivial⟩ trivial rfl ?_)) | (refine is_assign ?_; refine al_v (opx_assign (.raw _)) ⟨rfl, trivial⟩ trivial rfl ?_) | (refine is_pick ?_; refine al_v (opx_pick_f (.raw _) rfl) ⟨rfl, rfl, trivial⟩ trivial rfl ?_) | (refine is_bi ?_; refine al_v opx_len_str ⟨rfl, trivial⟩ trivial rfl ?_) | (refine is_call ?_; (first | (refine al_callE (by (repeat (first | exact .nil | refine .one rfl rfl ?_ | refine .froz rfl rfl ?_ | refine .rnil rfl ?_ | refine .agg rfl (by (repeat (first | exact .nil | refine .cons (.same rfl) ?_ | refine .cons (.froz rfl) ?_ | refine .cons (.rnil) ?_)); (first | done | fail)) ?_)); (first | done | fail)) rfl (c_Atoi_t s n h5 ha) ?_; rintro v rfl) | refine al_callv2 (by (repeat (first | exact .nil | refine .one rfl rfl ?_ | refine .froz rfl rfl ?_ | refine .row rfl rfl ?_ | refine .rnil rfl ?_ | refine .agg rfl (by (repeat (first | exact .nil | refine .cons (.same rfl) ?_ | refine .cons (.froz rfl) ?_ | refine .cons (.rnil) ?_ | refine .cons (.row rfl rfl) ?_)); (first | done | fail)) ?_)); (first | done | fail)) rfl (c_Itoa n (by omega)) rfl ?_)) | refine al_v (opx_extract _ rfl) ⟨rfl, trivial⟩ trivial rfl ?_ | refine al_nil ?_ | refine al_v (opx_errF err_und) ⟨rfl, trivial⟩ trivial rfl ?_)) | (refine is_ad ?_; refine al_v (opx_errF err_und) ⟨rfl, trivial⟩ trivial rfl ?_) | (refine is_aw ?_; (first | refine aw_seq ?_ | refine aw_region ?_ | refine aw_skip ?_ | refine aw_ret ?_ | (refine is_cond ?_; refine aw_cond_f rfl (by assumption) ?_))))
        exact ret_raw2 trivial rfl rfl ⟨by rw [f1, f2], rfl⟩
      · obtain ⟨f1, f2⟩ := num_f (w := s) fun _ m hm => by
          rw [← hm, atoi_itoa] at ha
          cases ha; exact hi hm
        have e1 : (!decide (Lib.itoa n = s)) = true := by rw [decide_eq_false hi]; rfl
        refine con_of_aw (vars := [.tmp 2, .tmp 3]) [(0, .r (rStr s))] [] 0 Tryz.func35 (by kernel_rfl) rfl Tryz.ntmps35 rfl (by decide) rfl rfl rfl rfl rfl ?_; intro B M w0 ρ0 Z0
        repeat' (first | (refine is_al ?_; (first | (refine is_gd ?_; refine al_on rfl rfl rfl (by assumption) ?_) | (refine is_move ?_; (first | refine al_v (opx_move (.raw _)) ⟨rfl, trivial⟩ trivial rfl ?_ | refine al_v (opx_move (.tup _)) ⟨rfl, trivial⟩ trivial rfl ?_)) | (refine is_bin ?_; (first | refine al_v opx_gtr ⟨rfl, rfl, trivial⟩ trivial rfl ?_ | refine al_v opx_sneq ⟨rfl, rfl, trivial⟩ trivial rfl ?_)) | (refine is_assign ?_; refine al_v (opx_assign (.raw _)) ⟨rfl, trivial⟩ trivial rfl ?_) | (refine is_pick ?_; refine al_v (opx_pick_f (.raw _) rfl) ⟨rfl, rfl, trivial⟩ trivial rfl ?_) | (refine is_bi ?_; refine al_v opx_len_str ⟨rfl, trivial⟩ trivial rfl ?_) | (refine is_call ?_; (first | (refine al_callE (by (repeat (first | exact .nil | refine .one rfl rfl ?_ | refine .froz rfl rfl ?_ | refine .rnil rfl ?_ | refine .agg rfl (by (repeat (first | exact .nil | refine .cons (.same rfl) ?_ | refine .cons (.froz rfl) ?_ | refine .cons (.rnil) ?_)); (first | done | fail)) ?_)); (first | done | fail)) rfl (c_Atoi_t s n h5 ha) ?_; rintro v rfl) | refine al_callv2 (by (repeat (first | exact .nil | refine .one rfl rfl ?_ | refine .froz rfl rfl ?_ | refine .row rfl rfl ?_ | refine .rnil rfl ?_ | refine .agg rfl (by (repeat (first | exact .nil | refine .cons (.same rfl) ?_ | refine .cons (.froz rfl) ?_ | refine .cons (.rnil) ?_ | refine .cons (.row rfl rfl) ?_)); (first | done | fail)) ?_)); (first | done | fail)) rfl (c_Itoa n (by omega)) rfl ?_)) | refine al_v (opx_extract _ rfl) ⟨rfl, trivial⟩ trivial rfl ?_ | refine al_nil ?_ | refine al_v (opx_errF err_und) ⟨rfl, trivial⟩ trivial rfl ?_)) | (refine is_ad ?_; refine al_v (opx_errF err_und) ⟨rfl, trivial⟩ trivial rfl ?_) | (refine is_aw ?_; (first | refine aw_seq ?_ | refine aw_region ?_ | refine aw_skip ?_ | refine aw_ret ?_ | (refine is_cond ?_; (first | refine aw_cond_t rfl (by assumption) ?_ | refine aw_cond_f rfl (by assumption) ?_)))) | refine thn_r ?_)
        exact ret_raw2 trivial rfl rfl ⟨by rw [f1, f2], rfl⟩
  · have d5 : decide (5 < (s.length : Int)) = true := decide_eq_true (by omega)
    obtain ⟨f1, f2⟩ := num_f (w := s) fun h => absurd h h5
    refine con_of_aw (vars := [.tmp 2, .tmp 3]) [(0, .r (rStr s))] [] 0 Tryz.func35 (by kernel_rfl) rfl Tryz.ntmps35 rfl (by decide) rfl rfl rfl rfl rfl ?_; intro B M w0 ρ0 Z0
    repeat' (first | (refine is_al ?_; (first | (refine is_move ?_; refine al_v (opx_move (.raw _)) ⟨rfl, trivial⟩ trivial rfl ?_) | (refine is_bin ?_; refine al_v opx_gtr ⟨rfl, rfl, trivial⟩ trivial rfl ?_) | (refine is_assign ?_; refine al_v (opx_assign (.raw _)) ⟨rfl, trivial⟩ trivial rfl ?_) | (refine is_bi ?_; refine al_v opx_len_str ⟨rfl, trivial⟩ trivial rfl ?_) | refine al_nil ?_)) | (refine is_aw ?_; (first | refine aw_seq ?_ | refine aw_region ?_ | refine aw_ret ?_ | (refine is_cond ?_; refine aw_cond_t rfl (by assumption) ?_))) | refine thn_r ?_)
    exact ret_raw2 trivial rfl rfl ⟨by rw [f1, f2], rfl⟩
end Go.Proofs.YtfoecgfboicphaaGreatDoor
/-
  Numbers of words: the reference's.
-/
namespace Go.Proofs.YtfoecgfboicphaaGreatDoor
open Go.RowKit
set_option linter.unusedVariables false
set_option linter.unusedSimpArgs false
attribute [local irreducible] AL AW OpX Le AD

theorem okS_snoc {l : Str} {c : UInt8} (h : okS l) (hc : 48 ≤ c.toNat ∧ c.toNat ≤ 57) : okS (l ++ [c]) := by
  intro j d hj
  rcases Nat.lt_or_ge j l.length with h1 | h1
  · rw [List.getElem?_append_left h1] at hj; exact h j d hj
  · rw [List.getElem?_append_right h1] at hj
    cases hk : j - l.length with
    | zero => rw [hk] at hj; simp at hj; subst hj; exact .inl hc
    | succ k => rw [hk] at hj; simp at hj
theorem itoa_ne {n : Int} : Lib.itoa n ≠ [] := fun h => by
  have := atoi_itoa n
  rw [h] at this
  cases this
theorem vS_same {s : Str} {n : Int} (h0 : n.natAbs = vS s) (h1 : n < 0 → s[0]? = some 45) (h2 : s[0]? = some 45 → n ≤ 0) (hi : Lib.itoa n ≠ s) : ∀ m, Lib.itoa m ≠ s := fun m hm => by
  obtain ⟨a, b, c⟩ := vS_itoa m
  rw [hm] at a c
  refine hi ?_
  rw [show n = m from ?_]
  · exact hm
  · by_cases hs : s[0]? = some 45
    · have := c.1 hs; have := h2 hs; omega
    · have : ¬ m < 0 := fun h => hs (c.2 h)
      have : ¬ n < 0 := fun h => hs (h1 h)
      omega
theorem vS_le : ∀ {s : Str} {k : Nat}, k ≤ s.length → k ≤ 5 → okS s → vS (s.take k) ≤ 99999
  | s, k, hk, h5, ho => by
    have : ∀ j, j ≤ k → vS (s.take j) + 1 ≤ 10 ^ j := by
      intro j
      induction j with
      | zero => intro _; simp [vS]
      | succ j ih =>
        intro hj
        have ih := ih (by omega)
        obtain ⟨c, hc⟩ : ∃ c, s[j]? = some c := ⟨_, List.getElem?_eq_getElem (by omega)⟩
        rw [List.take_add_one, hc]
        rcases ho j c hc with h | ⟨rfl, rfl⟩
        · rw [show s.take j ++ (some c).toList = s.take j ++ [c] from rfl, vS_snoc h.1, Nat.pow_succ]; omega
        · simp [vS, vD]
    have h1 := this k (Nat.le_refl _)
    have h2 : 10 ^ k ≤ 10 ^ 5 := Nat.pow_le_pow_right (by omega) h5
    omega
theorem c_parseInt (s : Str) (hs : s.length ≤ 1000000000) : Con Tryz.prog 68 [rStr s] [] (fun rs all => rs = [rI (numN s), rB (numB s)] ∧ all = []) := by
  have n1 : (!true) = false := rfl
  have n2 : (!false) = true := rfl
  by_cases h5 : 5 < s.length
  · obtain ⟨f1, f2⟩ := num_f (w := s) fun h => absurd h (by omega)
    have e1 : decide ((0 : Int) < (s.length : Int)) = true := decide_eq_true (by omega)
    have e2 : decide ((s.length : Int) ≤ 5) = false := decide_eq_false (by omega)
    have e3 : decide ((s.length : Int) = 0) = false := decide_eq_false (by omega)
    have e4 : decide (5 < (s.length : Int)) = true := decide_eq_true (by omega)
    obtain ⟨c, hc⟩ : ∃ c, s[0]? = some c := ⟨_, List.getElem?_eq_getElem (by omega)⟩
    refine con_of_aw (vars := [.tmp 2, .tmp 3]) [(0, .r (rStr s))] [] 0 Tryz.func68 (by kernel_rfl) rfl Tryz.ntmps68 rfl (by decide) rfl rfl rfl rfl rfl ?_; intro B M w0 ρ0 Z0
    repeat' (first | (refine is_al ?_; (first | (refine is_assign ?_; refine al_v (opx_assign (.raw _)) ⟨rfl, trivial⟩ trivial rfl ?_) | refine al_nil ?_)) | (refine is_aw ?_; (first | refine aw_seq ?_ | refine aw_region ?_ | refine aw_block ?_)))
    refine aw_loop (γ := Unit) (fun _ => [(0, .r (rStr s)), (4, .i 0), (5, .i 0)]) (fun _ => []) (fun _ => 0) (fun _ => True) (fun _ => 0) () trivial (le_mk [] rfl rfl rfl rfl ⟨rfl, rfl, rfl, trivial⟩ trivial) ?_
    intro _ _
    by_cases hc45 : c = 45
    · have e5 : decide ((c.toNat : Int) = 45) = true := decide_eq_true (by rw [hc45]; rfl)
      repeat' (first | (refine is_al ?_; (first | (refine is_gd ?_; (first | refine al_on rfl rfl rfl (by assumption) ?_ | refine al_off rfl rfl rfl (by assumption) rfl ?_)) | (refine is_move ?_; refine al_v (opx_move (.raw _)) ⟨rfl, trivial⟩ trivial rfl ?_) | (refine is_bin ?_; (first | refine al_v opx_eql ⟨rfl, rfl, trivial⟩ trivial rfl ?_ | refine al_v opx_lss ⟨rfl, rfl, trivial⟩ trivial rfl ?_ | refine al_v opx_leq ⟨rfl, rfl, trivial⟩ trivial rfl ?_ | refine al_v opx_gtr ⟨rfl, rfl, trivial⟩ trivial rfl ?_)) | (refine is_assign ?_; refine al_v (opx_assign (.raw _)) ⟨rfl, trivial⟩ trivial rfl ?_) | (refine is_pick ?_; (first | refine al_v (opx_pick_t (.raw _) (by assumption)) ⟨rfl, rfl, trivial⟩ trivial rfl ?_ | refine al_v (opx_pick_f (.raw _) (by assumption)) ⟨rfl, rfl, trivial⟩ trivial rfl ?_)) | (refine is_bi ?_; refine al_v opx_len_str ⟨rfl, trivial⟩ trivial rfl ?_) | refine al_nil ?_ | refine al_v (opx_sidx (k := 0) rfl hc) ⟨rfl, rfl, trivial⟩ trivial rfl ?_ | refine al_v (opx_negE (r := 0) rfl (by unfold InR; omega)) ⟨rfl, trivial⟩ trivial rfl ?_)) | (refine is_ad ?_; (first | refine al_v (opx_sidx (k := 0) rfl hc) ⟨rfl, rfl, trivial⟩ trivial rfl ?_ | refine al_v (opx_negE (r := 0) rfl (by unfold InR; omega)) ⟨rfl, trivial⟩ trivial rfl ?_)) | (refine is_aw ?_; (first | refine aw_seq ?_ | refine aw_region ?_ | refine aw_ret ?_ | refine aw_exit ?_ | (refine is_cond ?_; (first | refine aw_cond_t rfl rfl ?_ | refine aw_cond_t rfl (by assumption) ?_ | refine aw_cond_f rfl (by assumption) ?_)))) | refine thn_r ?_)
      exact ret_raw2 trivial rfl rfl ⟨by rw [f1, f2], rfl⟩
    · have e5 : decide ((c.toNat : Int) = 45) = false := decide_eq_false fun h => hc45 (UInt8.toNat_inj.1 (by show c.toNat = 45; omega))
      repeat' (first | (refine is_al ?_; (first | (refine is_gd ?_; (first | refine al_on rfl rfl rfl (by assumption) ?_ | refine al_off rfl rfl rfl (by assumption) rfl ?_)) | (refine is_move ?_; refine al_v (opx_move (.raw _)) ⟨rfl, trivial⟩ trivial rfl ?_) | (refine is_bin ?_; (first | refine al_v opx_eql ⟨rfl, rfl, trivial⟩ trivial rfl ?_ | refine al_v opx_lss ⟨rfl, rfl, trivial⟩ trivial rfl ?_ | refine al_v opx_leq ⟨rfl, rfl, trivial⟩ trivial rfl ?_ | refine al_v opx_gtr ⟨rfl, rfl, trivial⟩ trivial rfl ?_)) | (refine is_assign ?_; refine al_v (opx_assign (.raw _)) ⟨rfl, trivial⟩ trivial rfl ?_) | (refine is_pick ?_; (first | refine al_v (opx_pick_t (.raw _) (by assumption)) ⟨rfl, rfl, trivial⟩ trivial rfl ?_ | refine al_v (opx_pick_f (.raw _) (by assumption)) ⟨rfl, rfl, trivial⟩ trivial rfl ?_)) | (refine is_bi ?_; refine al_v opx_len_str ⟨rfl, trivial⟩ trivial rfl ?_) | refine al_nil ?_ | refine al_v (opx_sidx (k := 0) rfl hc) ⟨rfl, rfl, trivial⟩ trivial rfl ?_)) | (refine is_ad ?_; refine al_v (opx_sidx (k := 0) rfl hc) ⟨rfl, rfl, trivial⟩ trivial rfl ?_) | (refine is_aw ?_; (first | refine aw_seq ?_ | refine aw_region ?_ | refine aw_skip ?_ | refine aw_ret ?_ | refine aw_exit ?_ | (refine is_cond ?_; (first | refine aw_cond_t rfl rfl ?_ | refine aw_cond_f rfl (by assumption) ?_)))) | refine thn_r ?_)
      exact ret_raw2 trivial rfl rfl ⟨by rw [f1, f2], rfl⟩
  · have e2 : decide ((s.length : Int) ≤ 5) = true := decide_eq_true (by omega)
    have e4 : decide (5 < (s.length : Int)) = false := decide_eq_false (by omega)
    refine con_of_aw (vars := [.tmp 2, .tmp 3]) [(0, .r (rStr s))] [] 0 Tryz.func68 (by kernel_rfl) rfl Tryz.ntmps68 rfl (by decide) rfl rfl rfl rfl rfl ?_; intro B M w0 ρ0 Z0
    repeat' (first | (refine is_al ?_; (first | (refine is_assign ?_; refine al_v (opx_assign (.raw _)) ⟨rfl, trivial⟩ trivial rfl ?_) | refine al_nil ?_)) | (refine is_aw ?_; (first | refine aw_seq ?_ | refine aw_region ?_ | refine aw_block ?_)))
    refine aw_loop (γ := Nat) (fun k => [(0, .r (rStr s)), (4, .i (vS (s.take k) : Int)), (5, .i (k : Int))]) (fun _ => []) (fun _ => 0) (fun k => k ≤ s.length ∧ okS (s.take k)) (fun k => s.length - k) 0 ⟨Nat.zero_le _, fun j c hj => by simp at hj⟩ (le_mk [] rfl rfl rfl rfl ⟨rfl, rfl, rfl, trivial⟩ trivial) ?_
    rintro k ⟨hk, ho⟩
    have hv := vS_le (s := s.take k) (k := k) (by rw [List.length_take]; omega) (by omega) ho
    rw [List.take_take, Nat.min_self] at hv
    rcases Nat.lt_or_ge k s.length with hlt | hge
    · have hc1 : decide ((k : Int) < (s.length : Int)) = true := decide_eq_true (by omega)
      obtain ⟨c, hc⟩ : ∃ c, s[k]? = some c := ⟨_, List.getElem?_eq_getElem hlt⟩
      have htk : s.take (k + 1) = s.take k ++ [c] := by rw [List.take_add_one, hc]; rfl
      have hc255 : c.toNat < 256 := c.toNat_lt
      by_cases hd : 48 ≤ (c.toNat : Int) ∧ (c.toNat : Int) ≤ 57
      · have d1 : decide (48 ≤ (c.toNat : Int) ∧ (c.toNat : Int) ≤ 57) = true := decide_eq_true hd
        repeat' (first | (refine is_al ?_; (first | (refine is_gd ?_; refine al_on rfl rfl rfl (by assumption) ?_) | (refine is_move ?_; refine al_v (opx_move (.raw _)) ⟨rfl, trivial⟩ trivial rfl ?_) | (refine is_bin ?_; (first | refine al_v opx_lss ⟨rfl, rfl, trivial⟩ trivial rfl ?_ | refine al_v opx_leq ⟨rfl, rfl, trivial⟩ trivial rfl ?_ | refine al_v (opx_add (by unfold InR; omega)) ⟨rfl, rfl, trivial⟩ trivial rfl ?_ | refine al_v (opx_sub (by unfold InR; omega)) ⟨rfl, rfl, trivial⟩ trivial rfl ?_ | refine al_v (opx_mul (by unfold InR; omega)) ⟨rfl, rfl, trivial⟩ trivial rfl ?_)) | (refine is_assign ?_; refine al_v (opx_assign (.raw _)) ⟨rfl, trivial⟩ trivial rfl ?_) | (refine is_pick ?_; refine al_v (opx_pick_t (.raw _) (by assumption)) ⟨rfl, rfl, trivial⟩ trivial rfl ?_) | (refine is_bi ?_; refine al_v opx_len_str ⟨rfl, trivial⟩ trivial rfl ?_) | (refine is_call ?_; refine al_callv2 (by (repeat (first | exact .nil | refine .one rfl rfl ?_ | refine .froz rfl rfl ?_ | refine .row rfl rfl ?_ | refine .rnil rfl ?_ | refine .agg rfl (by (repeat (first | exact .nil | refine .cons (.same rfl) ?_ | refine .cons (.froz rfl) ?_ | refine .cons (.rnil) ?_ | refine .cons (.row rfl rfl) ?_)); (first | done | fail)) ?_)); (first | done | fail)) rfl (c_inRange _ _ _) rfl ?_) | refine al_nil ?_ | refine al_v (opx_sidx (k := k) rfl hc) ⟨rfl, rfl, trivial⟩ trivial rfl ?_ | refine al_v (opx_intOf (by omega)) ⟨rfl, trivial⟩ trivial rfl ?_)) | (refine is_ad ?_; (first | refine al_v (opx_sidx (k := k) rfl hc) ⟨rfl, rfl, trivial⟩ trivial rfl ?_ | refine al_v (opx_intOf (by omega)) ⟨rfl, trivial⟩ trivial rfl ?_)) | (refine is_aw ?_; (first | refine aw_seq ?_ | refine aw_region ?_ | refine aw_skip ?_ | refine aw_block ?_ | (refine is_cond ?_; refine aw_cond_t rfl (by assumption) ?_))) | refine thn_n ?_)
        refine ⟨k + 1, ⟨hlt, by rw [htk]; exact okS_snoc ho (by omega)⟩, by omega, le_mk [] rfl rfl rfl rfl ⟨rfl, ?_, rfl, trivial⟩ trivial⟩
        rw [htk, vS_snoc (by omega)]
        show AV.i _ = AV.i _
        congr 1
        omega
      · have d1 : decide (48 ≤ (c.toNat : Int) ∧ (c.toNat : Int) ≤ 57) = false := decide_eq_false hd
        by_cases h0 : 0 < k
        · have d2 : decide (0 < (k : Int)) = true := decide_eq_true (by omega)
          obtain ⟨f1, f2⟩ := num_bad hc (by omega) (by omega)
          repeat' (first | (refine is_al ?_; (first | (refine is_gd ?_; (first | refine al_on rfl rfl rfl (by assumption) ?_ | refine al_off rfl rfl rfl (by assumption) rfl ?_)) | (refine is_move ?_; refine al_v (opx_move (.raw _)) ⟨rfl, trivial⟩ trivial rfl ?_) | (refine is_bin ?_; (first | refine al_v opx_lss ⟨rfl, rfl, trivial⟩ trivial rfl ?_ | refine al_v opx_leq ⟨rfl, rfl, trivial⟩ trivial rfl ?_ | refine al_v opx_gtr ⟨rfl, rfl, trivial⟩ trivial rfl ?_)) | (refine is_assign ?_; refine al_v (opx_assign (.raw _)) ⟨rfl, trivial⟩ trivial rfl ?_) | (refine is_pick ?_; refine al_v (opx_pick_t (.raw _) (by assumption)) ⟨rfl, rfl, trivial⟩ trivial rfl ?_) | (refine is_bi ?_; refine al_v opx_len_str ⟨rfl, trivial⟩ trivial rfl ?_) | (refine is_call ?_; refine al_callv2 (by (repeat (first | exact .nil | refine .one rfl rfl ?_ | refine .froz rfl rfl ?_ | refine .row rfl rfl ?_ | refine .rnil rfl ?_ | refine .agg rfl (by (repeat (first | exact .nil | refine .cons (.same rfl) ?_ | refine .cons (.froz rfl) ?_ | refine .cons (.rnil) ?_ | refine .cons (.row rfl rfl) ?_)); (first | done | fail)) ?_)); (first | done | fail)) rfl (c_inRange _ _ _) rfl ?_) | refine al_nil ?_ | refine al_v (opx_sidx (k := k) rfl hc) ⟨rfl, rfl, trivial⟩ trivial rfl ?_ | refine al_v (opx_intOf (by omega)) ⟨rfl, trivial⟩ trivial rfl ?_)) | (refine is_ad ?_; (first | refine al_v (opx_sidx (k := k) rfl hc) ⟨rfl, rfl, trivial⟩ trivial rfl ?_ | refine al_v (opx_intOf (by omega)) ⟨rfl, trivial⟩ trivial rfl ?_)) | (refine is_aw ?_; (first | refine aw_seq ?_ | refine aw_region ?_ | refine aw_skip ?_ | refine aw_block ?_ | refine aw_ret ?_ | (refine is_cond ?_; (first | refine aw_cond_t rfl rfl ?_ | refine aw_cond_t rfl (by assumption) ?_ | refine aw_cond_f rfl (by assumption) ?_)))) | refine thn_r ?_ | refine inb_r ?_)
          exact ret_raw2 trivial rfl rfl ⟨by rw [f1, f2], rfl⟩
        · obtain rfl : k = 0 := by omega
          have d2 : decide (0 < ((0 : Nat) : Int)) = false := rfl
          by_cases h45 : c = 45
          · have d3 : (!decide ((c.toNat : Int) = 45)) = false := by rw [h45]; rfl
            repeat' (first | (refine is_al ?_; (first | (refine is_gd ?_; refine al_on rfl rfl rfl (by assumption) ?_) | (refine is_move ?_; refine al_v (opx_move (.raw _)) ⟨rfl, trivial⟩ trivial rfl ?_) | (refine is_bin ?_; (first | refine al_v opx_neq ⟨rfl, rfl, trivial⟩ trivial rfl ?_ | refine al_v opx_lss ⟨rfl, rfl, trivial⟩ trivial rfl ?_ | refine al_v opx_leq ⟨rfl, rfl, trivial⟩ trivial rfl ?_ | refine al_v opx_gtr ⟨rfl, rfl, trivial⟩ trivial rfl ?_ | refine al_v (opx_add (by unfold InR; omega)) ⟨rfl, rfl, trivial⟩ trivial rfl ?_)) | (refine is_assign ?_; refine al_v (opx_assign (.raw _)) ⟨rfl, trivial⟩ trivial rfl ?_) | (refine is_pick ?_; (first | refine al_v (opx_pick_f (.raw _) rfl) ⟨rfl, rfl, trivial⟩ trivial rfl ?_ | refine al_v (opx_pick_t (.raw _) (by assumption)) ⟨rfl, rfl, trivial⟩ trivial rfl ?_)) | (refine is_bi ?_; refine al_v opx_len_str ⟨rfl, trivial⟩ trivial rfl ?_) | (refine is_call ?_; refine al_callv2 (by (repeat (first | exact .nil | refine .one rfl rfl ?_ | refine .froz rfl rfl ?_ | refine .row rfl rfl ?_ | refine .rnil rfl ?_ | refine .agg rfl (by (repeat (first | exact .nil | refine .cons (.same rfl) ?_ | refine .cons (.froz rfl) ?_ | refine .cons (.rnil) ?_ | refine .cons (.row rfl rfl) ?_)); (first | done | fail)) ?_)); (first | done | fail)) rfl (c_inRange _ _ _) rfl ?_) | refine al_nil ?_ | refine al_v (opx_sidx (k := 0) rfl hc) ⟨rfl, rfl, trivial⟩ trivial rfl ?_ | refine al_v (opx_intOf (by omega)) ⟨rfl, trivial⟩ trivial rfl ?_)) | (refine is_ad ?_; (first | refine al_v (opx_sidx (k := 0) rfl hc) ⟨rfl, rfl, trivial⟩ trivial rfl ?_ | refine al_v (opx_intOf (by omega)) ⟨rfl, trivial⟩ trivial rfl ?_)) | (refine is_aw ?_; (first | refine aw_seq ?_ | refine aw_region ?_ | refine aw_skip ?_ | refine aw_block ?_ | (refine is_cond ?_; (first | refine aw_cond_t rfl (by assumption) ?_ | refine aw_cond_f rfl (by assumption) ?_)))) | refine thn_n ?_)
            refine ⟨1, ⟨hlt, by rw [htk]; intro j d hj; cases j with | zero => simp at hj; exact .inr ⟨rfl, by rw [← hj, h45]⟩ | succ j => simp at hj⟩, by omega, le_mk [] rfl rfl rfl rfl ⟨rfl, ?_, rfl, trivial⟩ trivial⟩
            rw [htk, h45]; rfl
          · have d3 : (!decide ((c.toNat : Int) = 45)) = true := by rw [decide_eq_false fun h => h45 (UInt8.toNat_inj.1 (by show c.toNat = 45; omega))]; rfl
            obtain ⟨f1, f2⟩ := num_bad hc (by omega) (fun h => h45 h.2)
            repeat' (first | (refine is_al ?_; (first | (refine is_gd ?_; refine al_on rfl rfl rfl (by assumption) ?_) | (refine is_move ?_; refine al_v (opx_move (.raw _)) ⟨rfl, trivial⟩ trivial rfl ?_) | (refine is_bin ?_; (first | refine al_v opx_neq ⟨rfl, rfl, trivial⟩ trivial rfl ?_ | refine al_v opx_lss ⟨rfl, rfl, trivial⟩ trivial rfl ?_ | refine al_v opx_leq ⟨rfl, rfl, trivial⟩ trivial rfl ?_ | refine al_v opx_gtr ⟨rfl, rfl, trivial⟩ trivial rfl ?_)) | (refine is_assign ?_; refine al_v (opx_assign (.raw _)) ⟨rfl, trivial⟩ trivial rfl ?_) | (refine is_pick ?_; (first | refine al_v (opx_pick_f (.raw _) rfl) ⟨rfl, rfl, trivial⟩ trivial rfl ?_ | refine al_v (opx_pick_t (.raw _) (by assumption)) ⟨rfl, rfl, trivial⟩ trivial rfl ?_)) | (refine is_bi ?_; refine al_v opx_len_str ⟨rfl, trivial⟩ trivial rfl ?_) | (refine is_call ?_; refine al_callv2 (by (repeat (first | exact .nil | refine .one rfl rfl ?_ | refine .froz rfl rfl ?_ | refine .row rfl rfl ?_ | refine .rnil rfl ?_ | refine .agg rfl (by (repeat (first | exact .nil | refine .cons (.same rfl) ?_ | refine .cons (.froz rfl) ?_ | refine .cons (.rnil) ?_ | refine .cons (.row rfl rfl) ?_)); (first | done | fail)) ?_)); (first | done | fail)) rfl (c_inRange _ _ _) rfl ?_) | refine al_nil ?_ | refine al_v (opx_sidx (k := 0) rfl hc) ⟨rfl, rfl, trivial⟩ trivial rfl ?_ | refine al_v (opx_intOf (by omega)) ⟨rfl, trivial⟩ trivial rfl ?_)) | (refine is_ad ?_; (first | refine al_v (opx_sidx (k := 0) rfl hc) ⟨rfl, rfl, trivial⟩ trivial rfl ?_ | refine al_v (opx_intOf (by omega)) ⟨rfl, trivial⟩ trivial rfl ?_)) | (refine is_aw ?_; (first | refine aw_seq ?_ | refine aw_region ?_ | refine aw_skip ?_ | refine aw_block ?_ | refine aw_ret ?_ | (refine is_cond ?_; (first | refine aw_cond_t rfl (by assumption) ?_ | refine aw_cond_f rfl (by assumption) ?_)))) | refine thn_r ?_ | refine inb_r ?_)
            exact ret_raw2 trivial rfl rfl ⟨by rw [f1, f2], rfl⟩
    · have hc1 : decide ((k : Int) < (s.length : Int)) = false := decide_eq_false (by omega)
      rw [List.take_of_length_le hge] at hv ho ⊢
      by_cases hnil : s = []
      · subst hnil
        obtain ⟨f1, f2⟩ := num_f (w := []) fun _ n hn => itoa_ne hn
        have e0 : decide ((0 : Int) < (([] : Str).length : Int)) = false := rfl
        have e3 : decide ((([] : Str).length : Int) = 0) = true := rfl
        repeat' (first | (refine is_al ?_; (first | (refine is_gd ?_; refine al_off rfl rfl rfl (by assumption) rfl ?_) | (refine is_move ?_; refine al_v (opx_move (.raw _)) ⟨rfl, trivial⟩ trivial rfl ?_) | (refine is_bin ?_; (first | refine al_v opx_eql ⟨rfl, rfl, trivial⟩ trivial rfl ?_ | refine al_v opx_lss ⟨rfl, rfl, trivial⟩ trivial rfl ?_ | refine al_v opx_gtr ⟨rfl, rfl, trivial⟩ trivial rfl ?_)) | (refine is_assign ?_; refine al_v (opx_assign (.raw _)) ⟨rfl, trivial⟩ trivial rfl ?_) | (refine is_pick ?_; (first | refine al_v (opx_pick_t (.raw _) rfl) ⟨rfl, rfl, trivial⟩ trivial rfl ?_ | refine al_v (opx_pick_f (.raw _) rfl) ⟨rfl, rfl, trivial⟩ trivial rfl ?_)) | (refine is_bi ?_; refine al_v opx_len_str ⟨rfl, trivial⟩ trivial rfl ?_) | refine al_nil ?_)) | (refine is_aw ?_; (first | refine aw_seq ?_ | refine aw_region ?_ | refine aw_skip ?_ | refine aw_ret ?_ | refine aw_exit ?_ | (refine is_cond ?_; (first | refine aw_cond_t rfl rfl ?_ | refine aw_cond_f rfl rfl ?_)))) | refine thn_r ?_)
        exact ret_raw2 trivial rfl rfl ⟨by rw [f1, f2], rfl⟩
      · have hlen : 0 < s.length := List.length_pos_iff.2 hnil
        have e0 : decide ((0 : Int) < (s.length : Int)) = true := decide_eq_true (by omega)
        have e3 : decide ((s.length : Int) = 0) = false := decide_eq_false (by omega)
        obtain ⟨c, hc⟩ : ∃ c, s[0]? = some c := ⟨_, List.getElem?_eq_getElem hlen⟩
        by_cases h45 : c = 45
        · have e5 : decide ((c.toNat : Int) = 45) = true := decide_eq_true (by rw [h45]; rfl)
          by_cases hi : Lib.itoa (-(vS s : Int)) = s
          · obtain ⟨f1, f2⟩ := num_t (w := s) (by omega) hi
            have e6 : (!decide (Lib.itoa (-(vS s : Int)) = s)) = false := by rw [decide_eq_true hi]; rfl
            repeat' (first | (refine is_al ?_; (first | (refine is_gd ?_; (first | refine al_on rfl rfl rfl (by assumption) ?_ | refine al_off rfl rfl rfl (by assumption) rfl ?_)) | (refine is_move ?_; refine al_v (opx_move (.raw _)) ⟨rfl, trivial⟩ trivial rfl ?_) | (refine is_bin ?_; (first | refine al_v opx_eql ⟨rfl, rfl, trivial⟩ trivial rfl ?_ | refine al_v opx_lss ⟨rfl, rfl, trivial⟩ trivial rfl ?_ | refine al_v opx_gtr ⟨rfl, rfl, trivial⟩ trivial rfl ?_ | refine al_v opx_sneq ⟨rfl, rfl, trivial⟩ trivial rfl ?_)) | (refine is_assign ?_; refine al_v (opx_assign (.raw _)) ⟨rfl, trivial⟩ trivial rfl ?_) | (refine is_pick ?_; (first | refine al_v (opx_pick_t (.raw _) (by assumption)) ⟨rfl, rfl, trivial⟩ trivial rfl ?_ | refine al_v (opx_pick_f (.raw _) (by assumption)) ⟨rfl, rfl, trivial⟩ trivial rfl ?_)) | (refine is_bi ?_; refine al_v opx_len_str ⟨rfl, trivial⟩ trivial rfl ?_) | (refine is_call ?_; refine al_callv2 (by (repeat (first | exact .nil | refine .one rfl rfl ?_ | refine .froz rfl rfl ?_ | refine .row rfl rfl ?_ | refine .rnil rfl ?_ | refine .agg rfl (by (repeat (first | exact .nil | refine .cons (.same rfl) ?_ | refine .cons (.froz rfl) ?_ | refine .cons (.rnil) ?_ | refine .cons (.row rfl rfl) ?_)); (first | done | fail)) ?_)); (first | done | fail)) rfl (c_decimal _ (by omega)) rfl ?_) | refine al_nil ?_ | refine al_v (opx_sidx (k := 0) rfl hc) ⟨rfl, rfl, trivial⟩ trivial rfl ?_ | refine al_v (opx_negE (r := -(vS s : Int)) rfl (by unfold InR; omega)) ⟨rfl, trivial⟩ trivial rfl ?_)) | (refine is_ad ?_; (first | refine al_v (opx_sidx (k := 0) rfl hc) ⟨rfl, rfl, trivial⟩ trivial rfl ?_ | refine al_v (opx_negE (r := -(vS s : Int)) rfl (by unfold InR; omega)) ⟨rfl, trivial⟩ trivial rfl ?_)) | (refine is_aw ?_; (first | refine aw_seq ?_ | refine aw_region ?_ | refine aw_skip ?_ | refine aw_ret ?_ | refine aw_exit ?_ | (refine is_cond ?_; (first | refine aw_cond_f rfl rfl ?_ | refine aw_cond_t rfl (by assumption) ?_ | refine aw_cond_f rfl (by assumption) ?_)))))
            exact ret_raw2 trivial rfl rfl ⟨by rw [f1, f2], rfl⟩
          · obtain ⟨f1, f2⟩ := num_f (w := s) fun _ => vS_same (n := -(vS s : Int)) (by omega) (fun _ => by rw [hc, h45]) (fun _ => by omega) hi
            have e6 : (!decide (Lib.itoa (-(vS s : Int)) = s)) = true := by rw [decide_eq_false hi]; rfl
            repeat' (first | (refine is_al ?_; (first | (refine is_gd ?_; (first | refine al_on rfl rfl rfl (by assumption) ?_ | refine al_off rfl rfl rfl (by assumption) rfl ?_)) | (refine is_move ?_; refine al_v (opx_move (.raw _)) ⟨rfl, trivial⟩ trivial rfl ?_) | (refine is_bin ?_; (first | refine al_v opx_eql ⟨rfl, rfl, trivial⟩ trivial rfl ?_ | refine al_v opx_lss ⟨rfl, rfl, trivial⟩ trivial rfl ?_ | refine al_v opx_gtr ⟨rfl, rfl, trivial⟩ trivial rfl ?_ | refine al_v opx_sneq ⟨rfl, rfl, trivial⟩ trivial rfl ?_)) | (refine is_assign ?_; refine al_v (opx_assign (.raw _)) ⟨rfl, trivial⟩ trivial rfl ?_) | (refine is_pick ?_; (first | refine al_v (opx_pick_t (.raw _) (by assumption)) ⟨rfl, rfl, trivial⟩ trivial rfl ?_ | refine al_v (opx_pick_f (.raw _) (by assumption)) ⟨rfl, rfl, trivial⟩ trivial rfl ?_)) | (refine is_bi ?_; refine al_v opx_len_str ⟨rfl, trivial⟩ trivial rfl ?_) | (refine is_call ?_; refine al_callv2 (by (repeat (first | exact .nil | refine .one rfl rfl ?_ | refine .froz rfl rfl ?_ | refine .row rfl rfl ?_ | refine .rnil rfl ?_ | refine .agg rfl (by (repeat (first | exact .nil | refine .cons (.same rfl) ?_ | refine .cons (.froz rfl) ?_ | refine .cons (.rnil) ?_ | refine .cons (.row rfl rfl) ?_)); (first | done | fail)) ?_)); (first | done | fail)) rfl (c_decimal _ (by omega)) rfl ?_) | refine al_nil ?_ | refine al_v (opx_sidx (k := 0) rfl hc) ⟨rfl, rfl, trivial⟩ trivial rfl ?_ | refine al_v (opx_negE (r := -(vS s : Int)) rfl (by unfold InR; omega)) ⟨rfl, trivial⟩ trivial rfl ?_)) | (refine is_ad ?_; (first | refine al_v (opx_sidx (k := 0) rfl hc) ⟨rfl, rfl, trivial⟩ trivial rfl ?_ | refine al_v (opx_negE (r := -(vS s : Int)) rfl (by unfold InR; omega)) ⟨rfl, trivial⟩ trivial rfl ?_)) | (refine is_aw ?_; (first | refine aw_seq ?_ | refine aw_region ?_ | refine aw_ret ?_ | refine aw_exit ?_ | (refine is_cond ?_; (first | refine aw_cond_f rfl rfl ?_ | refine aw_cond_t rfl (by assumption) ?_)))) | refine thn_r ?_)
            exact ret_raw2 trivial rfl rfl ⟨by rw [f1, f2], rfl⟩
        · have e5 : decide ((c.toNat : Int) = 45) = false := decide_eq_false fun h => h45 (UInt8.toNat_inj.1 (by show c.toNat = 45; omega))
          by_cases hi : Lib.itoa (vS s : Int) = s
          · obtain ⟨f1, f2⟩ := num_t (w := s) (by omega) hi
            have e6 : (!decide (Lib.itoa (vS s : Int) = s)) = false := by rw [decide_eq_true hi]; rfl
            repeat' (first | (refine is_al ?_; (first | (refine is_gd ?_; (first | refine al_on rfl rfl rfl (by assumption) ?_ | refine al_off rfl rfl rfl (by assumption) rfl ?_)) | (refine is_move ?_; refine al_v (opx_move (.raw _)) ⟨rfl, trivial⟩ trivial rfl ?_) | (refine is_bin ?_; (first | refine al_v opx_eql ⟨rfl, rfl, trivial⟩ trivial rfl ?_ | refine al_v opx_lss ⟨rfl, rfl, trivial⟩ trivial rfl ?_ | refine al_v opx_gtr ⟨rfl, rfl, trivial⟩ trivial rfl ?_ | refine al_v opx_sneq ⟨rfl, rfl, trivial⟩ trivial rfl ?_)) | (refine is_assign ?_; refine al_v (opx_assign (.raw _)) ⟨rfl, trivial⟩ trivial rfl ?_) | (refine is_pick ?_; (first | refine al_v (opx_pick_t (.raw _) (by assumption)) ⟨rfl, rfl, trivial⟩ trivial rfl ?_ | refine al_v (opx_pick_f (.raw _) (by assumption)) ⟨rfl, rfl, trivial⟩ trivial rfl ?_)) | (refine is_bi ?_; refine al_v opx_len_str ⟨rfl, trivial⟩ trivial rfl ?_) | (refine is_call ?_; refine al_callv2 (by (repeat (first | exact .nil | refine .one rfl rfl ?_ | refine .froz rfl rfl ?_ | refine .row rfl rfl ?_ | refine .rnil rfl ?_ | refine .agg rfl (by (repeat (first | exact .nil | refine .cons (.same rfl) ?_ | refine .cons (.froz rfl) ?_ | refine .cons (.rnil) ?_ | refine .cons (.row rfl rfl) ?_)); (first | done | fail)) ?_)); (first | done | fail)) rfl (c_decimal _ (by omega)) rfl ?_) | refine al_nil ?_ | refine al_v (opx_sidx (k := 0) rfl hc) ⟨rfl, rfl, trivial⟩ trivial rfl ?_)) | (refine is_ad ?_; refine al_v (opx_sidx (k := 0) rfl hc) ⟨rfl, rfl, trivial⟩ trivial rfl ?_) | (refine is_aw ?_; (first | refine aw_seq ?_ | refine aw_region ?_ | refine aw_skip ?_ | refine aw_ret ?_ | refine aw_exit ?_ | (refine is_cond ?_; (first | refine aw_cond_f rfl rfl ?_ | refine aw_cond_f rfl (by assumption) ?_)))))
            exact ret_raw2 trivial rfl rfl ⟨by rw [f1, f2], rfl⟩
          · obtain ⟨f1, f2⟩ := num_f (w := s) fun _ => vS_same (n := (vS s : Int)) (by omega) (fun h => by omega) (fun h => by rw [hc] at h; exact absurd (Option.some.inj h) h45) hi
            have e6 : (!decide (Lib.itoa (vS s : Int) = s)) = true := by rw [decide_eq_false hi]; rfl
            repeat' (first | (refine is_al ?_; (first | (refine is_gd ?_; (first | refine al_on rfl rfl rfl (by assumption) ?_ | refine al_off rfl rfl rfl (by assumption) rfl ?_)) | (refine is_move ?_; refine al_v (opx_move (.raw _)) ⟨rfl, trivial⟩ trivial rfl ?_) | (refine is_bin ?_; (first | refine al_v opx_eql ⟨rfl, rfl, trivial⟩ trivial rfl ?_ | refine al_v opx_lss ⟨rfl, rfl, trivial⟩ trivial rfl ?_ | refine al_v opx_gtr ⟨rfl, rfl, trivial⟩ trivial rfl ?_ | refine al_v opx_sneq ⟨rfl, rfl, trivial⟩ trivial rfl ?_)) | (refine is_assign ?_; refine al_v (opx_assign (.raw _)) ⟨rfl, trivial⟩ trivial rfl ?_) | (refine is_pick ?_; (first | refine al_v (opx_pick_t (.raw _) (by assumption)) ⟨rfl, rfl, trivial⟩ trivial rfl ?_ | refine al_v (opx_pick_f (.raw _) (by assumption)) ⟨rfl, rfl, trivial⟩ trivial rfl ?_)) | (refine is_bi ?_; refine al_v opx_len_str ⟨rfl, trivial⟩ trivial rfl ?_) | (refine is_call ?_; refine al_callv2 (by (repeat (first | exact .nil | refine .one rfl rfl ?_ | refine .froz rfl rfl ?_ | refine .row rfl rfl ?_ | refine .rnil rfl ?_ | refine .agg rfl (by (repeat (first | exact .nil | refine .cons (.same rfl) ?_ | refine .cons (.froz rfl) ?_ | refine .cons (.rnil) ?_ | refine .cons (.row rfl rfl) ?_)); (first | done | fail)) ?_)); (first | done | fail)) rfl (c_decimal _ (by omega)) rfl ?_) | refine al_nil ?_ | refine al_v (opx_sidx (k := 0) rfl hc) ⟨rfl, rfl, trivial⟩ trivial rfl ?_)) | (refine is_ad ?_; refine al_v (opx_sidx (k := 0) rfl hc) ⟨rfl, rfl, trivial⟩ trivial rfl ?_) | (refine is_aw ?_; (first | refine aw_seq ?_ | refine aw_region ?_ | refine aw_skip ?_ | refine aw_ret ?_ | refine aw_exit ?_ | (refine is_cond ?_; (first | refine aw_cond_f rfl rfl ?_ | refine aw_cond_t rfl (by assumption) ?_ | refine aw_cond_f rfl (by assumption) ?_)))) | refine thn_r ?_)
            exact ret_raw2 trivial rfl rfl ⟨by rw [f1, f2], rfl⟩
end Go.Proofs.YtfoecgfboicphaaGreatDoor
/-
  The tools of the exact statements: sizes, copies, marks.
-/
namespace Go.Proofs.YtfoecgfboicphaaGreatDoor
open Go.RowKit
set_option linter.unusedVariables false
set_option linter.unusedSimpArgs false
attribute [local irreducible] AL AW OpX Le AD

end Go.Proofs.YtfoecgfboicphaaGreatDoor
/-
  The exact law of the text of labels: the walks.
-/
namespace Go.Proofs.YtfoecgfboicphaaGreatDoor
open Go.RowKit
set_option linter.unusedVariables false
set_option linter.unusedSimpArgs false
attribute [local irreducible] AL AW OpX Le AD

end Go.Proofs.YtfoecgfboicphaaGreatDoor

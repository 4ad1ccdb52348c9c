/- Merged: PN W103 W104 W105 W106 -/
import Derived.Test.YtllgddednlfhfaaDoorW100
import Derived.Lib.Atoi
import Derived.Lib.ItoaNum
import Derived.Lib.SplitLaws
import Derived.Lib.IndexBytes
import Derived.Test.YtllgddednlfhfaaDoorWS
import Derived.Lib.SmallJoins
import Derived.Lib.AtoiBound
import Derived.WideLaws
import Derived.Test.YtllgddednlfhfaaDoorWG
import Derived.Test.YtllgddednlfhfaaDoorW70
/-
  Numbers in decimal and words: the plain law.
-/
namespace Go.Proofs.YtllgddednlfhfaaDoor
open Go
set_option linter.unusedVariables false
set_option linter.unusedSimpArgs false

theorem dec_lowD : ∀ (n : Nat) {u : Nat}, u ≤ n → ∀ c ∈ Lib.decDigits u, 48 ≤ c.toNat ∧ c.toNat ≤ 57
  | n, u, h, c, hc => by
    by_cases h1 : u < 10
    · rw [dec_small h1] at hc
      obtain rfl := List.mem_singleton.1 hc
      rw [UInt8.toNat_ofNat']; omega
    · rw [dec_big h1] at hc
      rcases List.mem_append.1 hc with hc | hc
      · match n with
        | 0 => omega
        | n + 1 => exact dec_lowD n (by omega) c hc
      · obtain rfl := List.mem_singleton.1 hc
        rw [UInt8.toNat_ofNat']; omega
theorem dec_ne {u : Nat} : Lib.decDigits u ≠ [] := by
  by_cases h : u < 10
  · rw [dec_small h]; simp
  · rw [dec_big h]; simp
/-- What digits are worth. -/
def vD (acc : Nat) (l : Str) : Nat := l.foldl (fun a c => a * 10 + (c.toNat - 48)) acc
theorem vD_snoc {acc : Nat} {l : Str} {c : UInt8} : vD acc (l ++ [c]) = vD acc l * 10 + (c.toNat - 48) := by simp [vD]
theorem vD_dec : ∀ (n : Nat) {u : Nat}, u ≤ n → vD 0 (Lib.decDigits u) = u
  | n, u, h => by
    by_cases h1 : u < 10
    · rw [dec_small h1]
      simp only [vD, List.foldl_cons, List.foldl_nil, UInt8.toNat_ofNat']; omega
    · rw [dec_big h1, vD_snoc]
      match n with
      | 0 => omega
      | n + 1 =>
        rw [vD_dec n (u := u / 10) (by omega), UInt8.toNat_ofNat']; omega
theorem vD_from : ∀ {l : Str} {acc : Nat}, (∀ c ∈ l, 48 ≤ c.toNat ∧ c.toNat ≤ 57) → Lib.decFrom acc l = some (vD acc l)
  | [], _, _ => rfl
  | c :: l, acc, h => by
    have hc := h c (.head _)
    rw [Lib.decFrom, Lib.digitVal, if_pos hc]
    exact vD_from fun d hd => h d (.tail _ hd)
theorem dec_from {u : Nat} : Lib.decNat (Lib.decDigits u) = some u := by
  unfold Lib.decNat
  have : (Lib.decDigits u).isEmpty = false := by
    cases h : Lib.decDigits u with
    | nil => exact absurd h dec_ne
    | cons => rfl
  rw [this, vD_from (dec_lowD u (Nat.le_refl _)), vD_dec u (Nat.le_refl _)]; rfl
theorem atoi_itoa (n : Int) : Lib.atoi (Lib.itoa n) = some n := by
  by_cases h : 0 ≤ n
  · obtain ⟨u, rfl⟩ : ∃ u : Nat, n = (u : Int) := ⟨n.toNat, by omega⟩
    rw [itoa_pos]
    cases hd : Lib.decDigits u with
    | nil => exact absurd hd dec_ne
    | cons c r =>
      have hc := dec_lowD u (Nat.le_refl _) c (by rw [hd]; exact .head _)
      have h1 : (c == 45) = false := by simp only [beq_eq_false_iff_ne]; rintro rfl; exact absurd hc (by decide)
      have h2 : (c == 43) = false := by simp only [beq_eq_false_iff_ne]; rintro rfl; exact absurd hc (by decide)
      simp only [Lib.atoi, h1, h2, Bool.false_eq_true, if_false]
      rw [← hd, dec_from]; rfl
  · obtain ⟨u, rfl⟩ : ∃ u : Nat, n = -(u : Int) := ⟨n.natAbs, by omega⟩
    rw [itoa_neg (by omega)]
    simp only [Lib.atoi, beq_self_eq_true, if_true]
    rw [dec_from]; rfl
/-- The number whose decimal form of at most five bytes a word is. -/
def numO (w : Str) : Option Int := if w.length ≤ 5 then (Lib.atoi w).bind fun n => if Lib.itoa n = w then some n else none else none
def numB (w : Str) : Bool := (numO w).isSome
def numN (w : Str) : Int := (numO w).getD 0
theorem numO_of {w : Str} {n : Int} (h : numO w = some n) : w.length ≤ 5 ∧ Lib.itoa n = w := by
  unfold numO at h
  split at h
  · rename_i h1
    cases ha : Lib.atoi w with
    | none => rw [ha] at h; cases h
    | some m =>
      rw [ha] at h
      have h : (if Lib.itoa m = w then some m else none) = some n := h
      split at h
      · cases h; exact ⟨h1, by assumption⟩
      · cases h
  · cases h
theorem numO_t {w : Str} {n : Int} (h1 : w.length ≤ 5) (h2 : Lib.itoa n = w) : numO w = some n := by
  have h3 : Lib.atoi w = some n := by rw [← h2]; exact atoi_itoa n
  rw [numO, if_pos h1, h3]
  show (if Lib.itoa n = w then some n else none) = some n
  rw [if_pos h2]
theorem num_t {w : Str} {n : Int} (h1 : w.length ≤ 5) (h2 : Lib.itoa n = w) : numB w = true ∧ numN w = n := by
  rw [numB, numN, numO_t h1 h2]; exact ⟨rfl, rfl⟩
theorem num_f {w : Str} (h : w.length ≤ 5 → ∀ n, Lib.itoa n ≠ w) : numB w = false ∧ numN w = 0 := by
  have : numO w = none := by
    cases hn : numO w with
    | none => rfl
    | some n => obtain ⟨a, b⟩ := numO_of hn; exact absurd b (h a n)
  rw [numB, numN, this]; exact ⟨rfl, rfl⟩
theorem num_of {w : Str} (h : numB w = true) : w.length ≤ 5 ∧ Lib.itoa (numN w) = w := by
  cases hn : numO w with
  | none => rw [numB, hn] at h; cases h
  | some n => rw [numN, hn]; exact numO_of hn
/-- What the reference reads: digits, behind a minus sign or not. -/
def vS (l : Str) : Nat := match l with
  | c :: r => if c = 45 then vD 0 r else vD 0 (c :: r)
  | [] => 0
def okS (l : Str) : Prop := ∀ (j : Nat) (c : UInt8), l[j]? = some c → (48 ≤ c.toNat ∧ c.toNat ≤ 57) ∨ (j = 0 ∧ c = 45)
theorem vS_snoc {l : Str} {c : UInt8} (h : 48 ≤ c.toNat) : vS (l ++ [c]) = vS l * 10 + (c.toNat - 48) := by
  have hc : c ≠ 45 := by rintro rfl; exact absurd h (by decide)
  cases l with
  | nil => simp [vS, hc, vD]
  | cons d r =>
    by_cases hd : d = 45
    · simp only [List.cons_append, vS, if_pos hd]; exact vD_snoc
    · simp only [List.cons_append, vS, if_neg hd]
      rw [← List.cons_append, vD_snoc]
theorem vS_itoa (n : Int) : vS (Lib.itoa n) = n.natAbs ∧ okS (Lib.itoa n) ∧ ((Lib.itoa n)[0]? = some 45 ↔ n < 0) := by
  by_cases h : 0 ≤ n
  · obtain ⟨u, rfl⟩ : ∃ u : Nat, n = (u : Int) := ⟨n.toNat, by omega⟩
    rw [itoa_pos]
    have hl := dec_lowD u (Nat.le_refl _)
    refine ⟨?_, fun j c hj => .inl (hl c (List.mem_of_getElem? hj)), fun h0 => ?_, fun h0 => by omega⟩
    · cases hd : Lib.decDigits u with
      | nil => exact absurd hd dec_ne
      | cons c r =>
        have hc : c ≠ 45 := by
          have := hl c (by rw [hd]; exact .head _)
          rintro rfl; exact absurd this (by decide)
        have hv := vD_dec u (u := u) (Nat.le_refl _)
        rw [hd] at hv
        simp only [vS, if_neg hc, hv]; omega
    · exact absurd (hl 45 (List.mem_of_getElem? h0)) (by decide)
  · obtain ⟨u, rfl⟩ : ∃ u : Nat, n = -(u : Int) := ⟨n.natAbs, by omega⟩
    rw [itoa_neg (by omega)]
    have hl := dec_lowD u (Nat.le_refl _)
    refine ⟨?_, fun j c hj => ?_, fun _ => by omega, fun _ => rfl⟩
    · simp only [vS, if_pos trivial]
      rw [vD_dec u (Nat.le_refl _)]; omega
    · cases j with
      | zero => simp at hj; exact .inr ⟨rfl, hj.symm⟩
      | succ j => exact .inl (hl c (List.mem_of_getElem? (by simpa using hj)))
theorem num_bad {w : Str} {j : Nat} {c : UInt8} (hj : w[j]? = some c) (h1 : ¬ (48 ≤ c.toNat ∧ c.toNat ≤ 57)) (h2 : ¬ (j = 0 ∧ c = 45)) : numB w = false ∧ numN w = 0 :=
  num_f fun _ n hn => by
    rcases (vS_itoa n).2.1 j c (hn ▸ hj) with h | h
    · exact h1 h
    · exact h2 h
/-! ### words -/
theorem split_spl {c : UInt8} : ∀ (n : Nat) {s : Str}, s.length ≤ n → Lib.splitK [c] 0 (s.count c) s = spl c s
  | n, s, hn => by
    by_cases h : c ∈ s
    · obtain ⟨x, r, rfl, hx⟩ := cut_at h
      have hi : Lib.index (x ++ c :: r) [c] = (x.length : Int) := by
        rw [Lib.index_one]
        clear hn h
        induction x with
        | nil => simp [Lib.indexByte]
        | cons a x ih =>
          have h1 : (a == c) = false := by simp only [beq_eq_false_iff_ne]; rintro rfl; exact hx (.head _)
          have h2 := ih (fun hm => hx (.tail _ hm))
          have h3 : ((x.length : Int) == -1) = false := by simp only [beq_eq_false_iff_ne]; omega
          simp [Lib.indexByte, h1, h2, h3]
      have hcnt : (x ++ c :: r).count c = r.count c + 1 := by
        rw [List.count_append, List.count_eq_zero.2 hx, List.count_cons]; simp
      rw [hcnt, Lib.splitK, hi]
      have h0 : ((x.length : Int) == -1) = false := by simp only [beq_eq_false_iff_ne]; omega
      rw [h0, spl_cut hx]
      simp only [Bool.false_eq_true, if_false, Int.toNat_natCast, Nat.add_zero, List.length_singleton]
      rw [List.take_left' rfl, show x ++ c :: r = (x ++ [c]) ++ r by simp, List.drop_left' (by simp)]
      cases n with
      | zero => simp at hn
      | succ n => rw [split_spl n (by simp at hn; omega)]
    · rw [List.count_eq_zero.2 h, spl_none h]; rfl
end Go.Proofs.YtllgddednlfhfaaDoor

/-
  Words, and numbers of words: the program's.
-/
namespace Go.Proofs.YtllgddednlfhfaaDoor
open Go.RowKit
set_option linter.unusedVariables false
set_option linter.unusedSimpArgs false
attribute [local irreducible] AL AW OpX Le AD

theorem str_of {ρ : Nat → Value} {Z : Nat → Prop} {w : World} {s : Str} {u : Value} (h : DR ρ Z w (rStr s) u) : u = .string ⟨s.toArray⟩ := by
  have h : DC Z w (.raw (.string ⟨s.toArray⟩)) u := h
  cases h; rfl
theorem strs_row {Z : Nat → Prop} {w : World} {e : TypeId} {L : List Str} {b : Nat} (hb : w.heap[b]? = some (.cells (L.map fun s => Value.string ⟨s.toArray⟩).toArray e (0, 0))) (hz : Z b) (hL : L.length ≤ maxLen) (hn : 0 < L.length) :
    DC Z w (.sl 1 (stRs L)) (.slice (some ⟨b, 0, none⟩) L.length L.length) := by
  have hfl : (stRs L).flatten = L.map fun s => CV.raw (.string ⟨s.toArray⟩) := by
    clear hL hn hb
    induction L with
    | nil => rfl
    | cons x L ih =>
      show stR x ++ (stRs L).flatten = _
      rw [ih]; rfl
  refine .sl 1 (stRs L) b 0 L.length L.length (L.map fun s => Value.string ⟨s.toArray⟩) (by simp [stRs]) (fun r hr => ?_) hz (Nat.le_refl _) hL (by rw [hfl]; simp) (fun k u hu => ?_) fun k h h' => ?_
  · obtain ⟨x, _, rfl⟩ := List.mem_map.1 hr
    rfl
  · rw [Nat.zero_add]
    unfold World.cell?
    simp only [hb]
    simpa using hu
  · simp only [hfl, List.getElem_map]
    exact .raw _ rfl
theorem spl_count {c : UInt8} : ∀ {s : Str}, (spl c s).length = s.count c + 1
  | [] => rfl
  | a :: s => by
    have ih := spl_count (c := c) (s := s)
    by_cases h : a = c
    · subst h
      rw [show a :: s = [] ++ a :: s from rfl, spl_cut (by simp)]
      simp [ih]
    · rw [List.count_cons_of_ne h]
      simp only [spl, if_neg h]
      split
      · rename_i e; rw [e] at ih; simpa using ih
      · rename_i e; exact absurd e spl_ne
theorem spl_leW {c : UInt8} : ∀ {s : Str}, ∀ x ∈ spl c s, x.length ≤ s.length
  | [], x, hx => by simp [spl] at hx; subst hx; simp
  | a :: s, x, hx => by
    have ih := spl_leW (c := c) (s := s)
    by_cases h : a = c
    · simp only [spl, if_pos h] at hx
      rcases List.mem_cons.1 hx with rfl | hx
      · simp
      · have := ih x hx; rw [List.length_cons]; omega
    · simp only [spl, if_neg h] at hx
      split at hx
      · rename_i p ps e
        rcases List.mem_cons.1 hx with rfl | hx
        · have := ih p (by rw [e]; exact .head _); simp only [List.length_cons]; omega
        · have := ih x (by rw [e]; exact .tail _ hx); simp only [List.length_cons]; omega
      · rename_i e; exact absurd e spl_ne
theorem spl_lenW {c : UInt8} {s : Str} : (spl c s).length ≤ s.length + 1 := by
  have := List.count_le_length (a := c) (l := s)
  rw [spl_count]; omega
theorem split_vals (s : Str) : (Lib.splitB ⟨#[32]⟩ 0 (Lib.countB ⟨s.toArray⟩ ⟨#[32]⟩) ⟨s.toArray⟩).map Value.string = (spl 32 s).map fun x => Value.string ⟨x.toArray⟩ := by
  have h1 := Lib.splitB_data ⟨#[32]⟩ 0 (Lib.countB ⟨s.toArray⟩ ⟨#[32]⟩) ⟨s.toArray⟩
  have h2 : Lib.countB ⟨s.toArray⟩ ⟨#[32]⟩ = s.count 32 := by
    show Lib.count s [32] = _
    exact Lib.count_one 32 s
  rw [h2] at h1 ⊢
  have h3 : (Lib.splitB ⟨#[32]⟩ 0 (s.count 32) ⟨s.toArray⟩).map (·.data.toList) = spl 32 s := by
    rw [h1]
    exact split_spl s.length (Nat.le_refl _)
  rw [← h3, List.map_map]
  exact List.map_congr_left fun x _ => rfl
theorem c_Split (s : Str) (hs : s.length ≤ 4000000000) : Con Tryd.prog 42 [rStr s, rStr [32]] [] (fun rs all => rs = [slS (spl 32 s)] ∧ all = []) := by
  refine ⟨by kernel_rfl, fun w ρ Z vs he => ?_⟩
  match vs, he.args with
  | [u, v], hd =>
    obtain rfl := str_of hd.1
    obtain rfl := str_of hd.2.1
    obtain ⟨_, _, h0, cs, t, fr, m, rfl, hm⟩ := he.gl ⟨0, okMax⟩ (.head _)
    have hcell : w.cell? ⟨0, 0, none⟩ = some (.int .i64 m) := by
      unfold World.cell?
      simp only [h0]
      simpa using hm
    refine (strings_Split ⟨s.toArray⟩ ⟨#[32]⟩ m w (by show s.toArray.size < _; simp; omega) hcell (by decide)).mono ?_
    rintro e w' ⟨rfl, rfl⟩
    rw [split_vals]
    have hc : Lib.countB ⟨s.toArray⟩ ⟨#[32]⟩ + 1 = (spl 32 s).length := by
      rw [spl_count, show Lib.countB ⟨s.toArray⟩ ⟨#[32]⟩ = s.count 32 from Lib.count_one 32 s]
    rw [hc]
    have hsz : (w.alloc (.cells ((spl 32 s).map fun x => Value.string ⟨x.toArray⟩).toArray 9)).heap.size = w.heap.size + 1 := Array.size_push _
    have hold : ∀ g, g < w.heap.size → (w.alloc (.cells ((spl 32 s).map fun x => Value.string ⟨x.toArray⟩).toArray 9)).heap[g]? = w.heap[g]? := fun g hg => by
      show (w.heap.push _)[g]? = _
      rw [Array.getElem?_push_lt hg, Array.getElem?_eq_getElem hg]
    have hnew : (w.alloc (.cells ((spl 32 s).map fun x => Value.string ⟨x.toArray⟩).toArray 9)).heap[w.heap.size]? = some (.cells ((spl 32 s).map fun x => Value.string ⟨x.toArray⟩).toArray 9 (0, 0)) := by
      show (w.heap.push _)[w.heap.size]? = _
      simp
    refine ⟨[slS (spl 32 s)], [], [_], ρ, fun g => Z g ∨ g = w.heap.size, ⟨rfl, rfl⟩, Nat.le_refl _, rfl, ?_⟩
    exact ⟨⟨strs_row hnew (.inr rfl) (by have := spl_lenW (c := 32) (s := s); unfold maxLen; omega) (List.length_pos_iff.2 spl_ne), trivial⟩, fun i => trivial, fun i hi => rfl, fun i j g hi => by simp [obAt, OB.live] at hi, fun i g hi => by simp [obAt, OB.live] at hi,
      fun g hg => .inl hg, fun g hg => hg.elim .inl fun h => .inr (.inl (by omega)), fun g hg => by
        rw [hsz]
        rcases hg with hg | rfl
        · have := he.zlt g hg; omega
        · omega, ⟨rfl, rfl⟩, rfl, rfl, rfl, by rw [hsz]; omega, fun g hg _ => hold g hg⟩
/-! ### numbers -/
theorem con_tup2 {f : FuncId} {args : List AR} {n : Int} {Q : Value → Prop} (hok : fnOk Tryd.prog f = true)
    (H : ∀ (w : World) (ρ : Nat → Value) (Z : Nat → Prop) (vs : List Value), DRL ρ Z w args vs → (∀ g, Z g → g < w.heap.size) → Gl Z w → Calls Tryd.prog f vs.toArray w fun e w' => ∃ v, Q v ∧ v.oneCell' = true ∧ e = .returned (.tuple #[.int .i64 n, v]) ∧ Below w.heap.size w w') :
    Con Tryd.prog f args [] (fun rs all => ∃ v, rs = [rI n, .one (.c (.raw v))] ∧ all = [] ∧ noTags rs = true ∧ Q v) :=
  ⟨hok, fun w ρ Z vs he => (H w ρ Z vs he.args he.zlt he.gl).mono fun e w' ⟨v, hq, hv, h1, h2⟩ =>
    ⟨[rI n, .one (.c (.raw v))], [], [.int .i64 n, v], ρ, Z, ⟨v, rfl, rfl, rfl, hq⟩, Nat.le_refl _, h1, by
      exact ⟨⟨.raw _ rfl, .raw _ hv, trivial⟩, fun i => trivial, fun i hi => rfl, fun i j g hi => by simp [obAt, OB.live] at hi, fun i g hi => by simp [obAt, OB.live] at hi, fun g hg => hg, fun g hg => .inl hg,
        fun g hg => Nat.lt_of_lt_of_le (he.zlt g hg) h2.size, ⟨rfl, rfl⟩, h2.os, h2.tape, h2.output, h2.size, fun g hg _ => h2.block g hg⟩⟩⟩
theorem c_Atoi_t (s : Str) (n : Int) (hs : s.length ≤ 5) (h : Lib.atoi s = some n) : Con Tryd.prog 63 [rStr s] [] (fun rs all => ∃ v, rs = [rI n, .one (.c (.raw v))] ∧ all = [] ∧ noTags rs = true ∧ v = .nilIface) := by
  refine con_tup2 (by kernel_rfl) fun w ρ Z vs hd hz hgl => ?_
  match vs, hd with
  | [u], hd =>
    obtain rfl := str_of hd.1
    refine (strconv_Atoi ⟨s.toArray⟩ n (by show s.toArray.size ≤ 18; simp; omega) h w).mono ?_
    rintro e w' ⟨rfl, t, rfl⟩
    exact ⟨_, rfl, rfl, rfl, Go.Joins.below_bytesWorld _ _ _ _ (Nat.le_refl _)⟩
theorem c_Atoi_f (s : Str) (hs : s.length ≤ 5) (h : Lib.atoi s = none) : Con Tryd.prog 63 [rStr s] [] (fun rs all => ∃ v, rs = [rI 0, .one (.c (.raw v))] ∧ all = [] ∧ noTags rs = true ∧ ∃ x, v = .iface 110 x) := by
  refine con_tup2 (by kernel_rfl) fun w ρ Z vs hd hz hgl => ?_
  match vs, hd with
  | [u], hd =>
    obtain rfl := str_of hd.1
    obtain ⟨_, _, h0, cs, t, fr, ev, rfl, hm, hev⟩ := hgl ⟨2, okErr⟩ (.tail _ (.tail _ (.head _)))
    have hcell : w.cell? ⟨2, 0, none⟩ = some ev := by
      unfold World.cell?
      simp only [h0]
      simpa using hm
    refine (strconv_Atoi_err ⟨s.toArray⟩ (by show s.toArray.size ≤ 18; simp; omega) h ev w hcell hev).mono ?_
    rintro e w' ⟨N, rfl, _, _, hb⟩
    exact ⟨_, ⟨_, rfl⟩, rfl, rfl, hb⟩
section
variable {P : Program} {d T : Nat} {x : Operand} {t' ty : TypeId} {pos : String} {af : Array Edge} {gd : Option (Nat × Bool)}
theorem opx_errF (ht : P.underlying T = some (.interface (P.methodsAt T))) : OpX P ⟨some d, .binOp .neq T x (.const .nilIface) t', ty, pos, af, gd⟩ [(x, .raw .nilIface)] [] [] [(d, .b false)] [] :=
  opx_val rfl fun cx S O V a w ρ Z hg hR hO => by
    refine ⟨.bool false, ?_, da_mk rfl, by simp [AV.tags, AR.tags, A1.tag]⟩
    have h := run_neq_nil_nil (P := P) w T ht
    have hx := da_raw (hg.ag hR.1)
    have hn : a.eval (.const .nilIface) = .nilIface := rfl
    simp only [execOp, hx, hn]
    simp [eqGuard, h]
theorem opx_errT {u : TypeId} {v : Value} (ht : P.underlying T = some (.interface (P.methodsAt T))) : OpX P ⟨some d, .binOp .neq T x (.const .nilIface) t', ty, pos, af, gd⟩ [(x, .raw (.iface u v))] [] [] [(d, .b true)] [] :=
  opx_val rfl fun cx S O V a w ρ Z hg hR hO => by
    refine ⟨.bool true, ?_, da_mk rfl, by simp [AV.tags, AR.tags, A1.tag]⟩
    have h := run_neq_held_nil (P := P) w T u v ht
    have hx := da_raw (hg.ag hR.1)
    have hn : a.eval (.const .nilIface) = .nilIface := rfl
    simp only [execOp, hx, hn]
    simp [eqGuard, h]
end
theorem err_und : Tryd.prog.underlying 83 = some (.interface (Tryd.prog.methodsAt 83)) := by kernel_rfl
theorem c_numberOf (s : Str) : Con Tryd.prog 43 [rStr s] [] (fun rs all => rs = [rI (numN s), rB (numB s)] ∧ all = []) := by
  have n1 : (!true) = false := rfl
  have n2 : (!false) = true := rfl
  by_cases h5 : s.length ≤ 5
  · have d5 : decide (5 < (s.length : Int)) = false := decide_eq_false (by omega)
    cases ha : Lib.atoi s with
    | none =>
      obtain ⟨f1, f2⟩ := num_f (w := s) fun _ n hn => by rw [← hn, atoi_itoa] at ha; cases ha
      refine con_of_aw (vars := [.tmp 2, .tmp 3]) [(0, .r (rStr s))] [] 0 Tryd.func43 (by kernel_rfl) rfl Tryd.ntmps43 rfl (by decide) rfl rfl rfl rfl rfl ?_; intro B M w0 ρ0 Z0
      repeat' (first | (refine is_al ?_; (first | (refine is_gd ?_; refine al_off rfl rfl rfl (by assumption) rfl ?_) | (refine is_move ?_; (first | refine al_v (opx_move (.raw _)) ⟨rfl, trivial⟩ trivial rfl ?_ | refine al_v (opx_move (.tup _)) ⟨rfl, trivial⟩ trivial rfl ?_)) | (refine is_bin ?_; refine al_v opx_gtr ⟨rfl, rfl, trivial⟩ trivial rfl ?_) | (refine is_assign ?_; refine al_v (opx_assign (.raw _)) ⟨rfl, trivial⟩ trivial rfl ?_) | (refine is_pick ?_; refine al_v (opx_pick_t (.raw _) rfl) ⟨rfl, rfl, trivial⟩ trivial rfl ?_) | (refine is_bi ?_; refine al_v opx_len_str ⟨rfl, trivial⟩ trivial rfl ?_) | (refine is_call ?_; (refine al_callE (by (repeat (first | exact .nil | refine .one rfl rfl ?_ | refine .froz rfl rfl ?_ | refine .rnil rfl ?_ | refine .agg rfl (by (repeat (first | exact .nil | refine .cons (.same rfl) ?_ | refine .cons (.froz rfl) ?_ | refine .cons (.rnil) ?_)); (first | done | fail)) ?_)); (first | done | fail)) rfl (c_Atoi_f s h5 ha) ?_; rintro v ⟨x, rfl⟩)) | refine al_v (opx_extract _ rfl) ⟨rfl, trivial⟩ trivial rfl ?_ | refine al_nil ?_ | refine al_v (opx_errT err_und) ⟨rfl, trivial⟩ trivial rfl ?_)) | (refine is_ad ?_; refine al_v (opx_errT err_und) ⟨rfl, trivial⟩ trivial rfl ?_) | (refine is_aw ?_; (first | refine aw_seq ?_ | refine aw_region ?_ | refine aw_skip ?_ | refine aw_ret ?_ | (refine is_cond ?_; (first | refine aw_cond_t rfl rfl ?_ | refine aw_cond_f rfl (by assumption) ?_)))) | refine thn_r ?_)
      exact ret_raw2 trivial rfl rfl ⟨by rw [f1, f2], rfl⟩
    | some n =>
      have hb := Lib.atoi_bound ha (by omega)
      by_cases hi : Lib.itoa n = s
      · obtain ⟨f1, f2⟩ := num_t h5 hi
        have e1 : (!decide (Lib.itoa n = s)) = false := by rw [decide_eq_true hi]; rfl
        refine con_of_aw (vars := [.tmp 2, .tmp 3]) [(0, .r (rStr s))] [] 0 Tryd.func43 (by kernel_rfl) rfl Tryd.ntmps43 rfl (by decide) rfl rfl rfl rfl rfl ?_; intro B M w0 ρ0 Z0
        repeat' (first | (refine is_al ?_; (first | (refine is_gd ?_; refine al_on rfl rfl rfl (by assumption) ?_) | (refine is_move ?_; (first | refine al_v (opx_move (.raw _)) ⟨rfl, trivial⟩ trivial rfl ?_ | refine al_v (opx_move (.tup _)) ⟨rfl, trivial⟩ trivial rfl ?_)) | (refine is_bin ?_; (first | refine al_v opx_gtr ⟨rfl, rfl, trivial⟩ trivial rfl ?_ | refine al_v opx_sneq ⟨rfl, rfl, trivial⟩ trivial rfl ?_)) | (refine is_assign ?_; refine al_v (opx_assign (.raw _)) ⟨rfl, trivial⟩ trivial rfl ?_) | (refine is_pick ?_; refine al_v (opx_pick_f (.raw _) rfl) ⟨rfl, rfl, trivial⟩ trivial rfl ?_) | (refine is_bi ?_; refine al_v opx_len_str ⟨rfl, trivial⟩ trivial rfl ?_) | (refine is_call ?_; (first | (refine al_callE (by (repeat (first | exact .nil | refine .one rfl rfl ?_ | refine .froz rfl rfl ?_ | refine .rnil rfl ?_ | refine .agg rfl (by (repeat (first | exact .nil | refine .cons (.same rfl) ?_ | refine .cons (.froz rfl) ?_ | refine .cons (.rnil) ?_)); (first | done | fail)) ?_)); (first | done | fail)) rfl (c_Atoi_t s n h5 ha) ?_; rintro v rfl) | refine al_callv2 (by (repeat (first | exact .nil | refine .one rfl rfl ?_ | refine .froz rfl rfl ?_ | refine .row rfl rfl ?_ | refine .rnil rfl ?_ | refine .agg rfl (by (repeat (first | exact .nil | refine .cons (.same rfl) ?_ | refine .cons (.froz rfl) ?_ | refine .cons (.rnil) ?_ | refine .cons (.row rfl rfl) ?_)); (first | done | fail)) ?_)); (first | done | fail)) rfl (c_Itoa n (by omega)) rfl ?_)) | refine al_v (opx_extract _ rfl) ⟨rfl, trivial⟩ trivial rfl ?_ | refine al_nil ?_ | refine al_v (opx_errF err_und) ⟨rfl, trivial⟩ trivial rfl ?_)) | (refine is_ad ?_; refine al_v (opx_errF err_und) ⟨rfl, trivial⟩ trivial rfl ?_) | (refine is_aw ?_; (first | refine aw_seq ?_ | refine aw_region ?_ | refine aw_skip ?_ | refine aw_ret ?_ | (refine is_cond ?_; refine aw_cond_f rfl (by assumption) ?_))))
        exact ret_raw2 trivial rfl rfl ⟨by rw [f1, f2], rfl⟩
      · obtain ⟨f1, f2⟩ := num_f (w := s) fun _ m hm => by
          rw [← hm, atoi_itoa] at ha
          cases ha; exact hi hm
        have e1 : (!decide (Lib.itoa n = s)) = true := by rw [decide_eq_false hi]; rfl
        refine con_of_aw (vars := [.tmp 2, .tmp 3]) [(0, .r (rStr s))] [] 0 Tryd.func43 (by kernel_rfl) rfl Tryd.ntmps43 rfl (by decide) rfl rfl rfl rfl rfl ?_; intro B M w0 ρ0 Z0
        repeat' (first | (refine is_al ?_; (first | (refine is_gd ?_; refine al_on rfl rfl rfl (by assumption) ?_) | (refine is_move ?_; (first | refine al_v (opx_move (.raw _)) ⟨rfl, trivial⟩ trivial rfl ?_ | refine al_v (opx_move (.tup _)) ⟨rfl, trivial⟩ trivial rfl ?_)) | (refine is_bin ?_; (first | refine al_v opx_gtr ⟨rfl, rfl, trivial⟩ trivial rfl ?_ | refine al_v opx_sneq ⟨rfl, rfl, trivial⟩ trivial rfl ?_)) | (refine is_assign ?_; refine al_v (opx_assign (.raw _)) ⟨rfl, trivial⟩ trivial rfl ?_) | (refine is_pick ?_; refine al_v (opx_pick_f (.raw _) rfl) ⟨rfl, rfl, trivial⟩ trivial rfl ?_) | (refine is_bi ?_; refine al_v opx_len_str ⟨rfl, trivial⟩ trivial rfl ?_) | (refine is_call ?_; (first | (refine al_callE (by (repeat (first | exact .nil | refine .one rfl rfl ?_ | refine .froz rfl rfl ?_ | refine .rnil rfl ?_ | refine .agg rfl (by (repeat (first | exact .nil | refine .cons (.same rfl) ?_ | refine .cons (.froz rfl) ?_ | refine .cons (.rnil) ?_)); (first | done | fail)) ?_)); (first | done | fail)) rfl (c_Atoi_t s n h5 ha) ?_; rintro v rfl) | refine al_callv2 (by (repeat (first | exact .nil | refine .one rfl rfl ?_ | refine .froz rfl rfl ?_ | refine .row rfl rfl ?_ | refine .rnil rfl ?_ | refine .agg rfl (by (repeat (first | exact .nil | refine .cons (.same rfl) ?_ | refine .cons (.froz rfl) ?_ | refine .cons (.rnil) ?_ | refine .cons (.row rfl rfl) ?_)); (first | done | fail)) ?_)); (first | done | fail)) rfl (c_Itoa n (by omega)) rfl ?_)) | refine al_v (opx_extract _ rfl) ⟨rfl, trivial⟩ trivial rfl ?_ | refine al_nil ?_ | refine al_v (opx_errF err_und) ⟨rfl, trivial⟩ trivial rfl ?_)) | (refine is_ad ?_; refine al_v (opx_errF err_und) ⟨rfl, trivial⟩ trivial rfl ?_) | (refine is_aw ?_; (first | refine aw_seq ?_ | refine aw_region ?_ | refine aw_skip ?_ | refine aw_ret ?_ | (refine is_cond ?_; (first | refine aw_cond_t rfl (by assumption) ?_ | refine aw_cond_f rfl (by assumption) ?_)))) | refine thn_r ?_)
        exact ret_raw2 trivial rfl rfl ⟨by rw [f1, f2], rfl⟩
  · have d5 : decide (5 < (s.length : Int)) = true := decide_eq_true (by omega)
    obtain ⟨f1, f2⟩ := num_f (w := s) fun h => absurd h h5
    refine con_of_aw (vars := [.tmp 2, .tmp 3]) [(0, .r (rStr s))] [] 0 Tryd.func43 (by kernel_rfl) rfl Tryd.ntmps43 rfl (by decide) rfl rfl rfl rfl rfl ?_; intro B M w0 ρ0 Z0
    repeat' (first | (refine is_al ?_; (first | (refine is_move ?_; refine al_v (opx_move (.raw _)) ⟨rfl, trivial⟩ trivial rfl ?_) | (refine is_bin ?_; refine al_v opx_gtr ⟨rfl, rfl, trivial⟩ trivial rfl ?_) | (refine is_assign ?_; refine al_v (opx_assign (.raw _)) ⟨rfl, trivial⟩ trivial rfl ?_) | (refine is_bi ?_; refine al_v opx_len_str ⟨rfl, trivial⟩ trivial rfl ?_) | refine al_nil ?_)) | (refine is_aw ?_; (first | refine aw_seq ?_ | refine aw_region ?_ | refine aw_ret ?_ | (refine is_cond ?_; refine aw_cond_t rfl (by assumption) ?_))) | refine thn_r ?_)
    exact ret_raw2 trivial rfl rfl ⟨by rw [f1, f2], rfl⟩
end Go.Proofs.YtllgddednlfhfaaDoor

/-
  Numbers of words: the reference's.
-/
namespace Go.Proofs.YtllgddednlfhfaaDoor
open Go.RowKit
set_option linter.unusedVariables false
set_option linter.unusedSimpArgs false
attribute [local irreducible] AL AW OpX Le AD

theorem okS_snoc {l : Str} {c : UInt8} (h : okS l) (hc : 48 ≤ c.toNat ∧ c.toNat ≤ 57) : okS (l ++ [c]) := by
  intro j d hj
  rcases Nat.lt_or_ge j l.length with h1 | h1
  · rw [List.getElem?_append_left h1] at hj; exact h j d hj
  · rw [List.getElem?_append_right h1] at hj
    cases hk : j - l.length with
    | zero => rw [hk] at hj; simp at hj; subst hj; exact .inl hc
    | succ k => rw [hk] at hj; simp at hj
theorem itoa_ne {n : Int} : Lib.itoa n ≠ [] := fun h => by
  have := atoi_itoa n
  rw [h] at this
  cases this
theorem vS_same {s : Str} {n : Int} (h0 : n.natAbs = vS s) (h1 : n < 0 → s[0]? = some 45) (h2 : s[0]? = some 45 → n ≤ 0) (hi : Lib.itoa n ≠ s) : ∀ m, Lib.itoa m ≠ s := fun m hm => by
  obtain ⟨a, b, c⟩ := vS_itoa m
  rw [hm] at a c
  refine hi ?_
  rw [show n = m from ?_]
  · exact hm
  · by_cases hs : s[0]? = some 45
    · have := c.1 hs; have := h2 hs; omega
    · have : ¬ m < 0 := fun h => hs (c.2 h)
      have : ¬ n < 0 := fun h => hs (h1 h)
      omega
theorem vS_le : ∀ {s : Str} {k : Nat}, k ≤ s.length → k ≤ 5 → okS s → vS (s.take k) ≤ 99999
  | s, k, hk, h5, ho => by
    have : ∀ j, j ≤ k → vS (s.take j) + 1 ≤ 10 ^ j := by
      intro j
      induction j with
      | zero => intro _; simp [vS]
      | succ j ih =>
        intro hj
        have ih := ih (by omega)
        obtain ⟨c, hc⟩ : ∃ c, s[j]? = some c := ⟨_, List.getElem?_eq_getElem (by omega)⟩
        rw [List.take_add_one, hc]
        rcases ho j c hc with h | ⟨rfl, rfl⟩
        · rw [show s.take j ++ (some c).toList = s.take j ++ [c] from rfl, vS_snoc h.1, Nat.pow_succ]; omega
        · simp [vS, vD]
    have h1 := this k (Nat.le_refl _)
    have h2 : 10 ^ k ≤ 10 ^ 5 := Nat.pow_le_pow_right (by omega) h5
    omega
theorem c_parseInt (s : Str) (hs : s.length ≤ 1000000000) : Con Tryd.prog 41 [rStr s] [] (fun rs all => rs = [rI (numN s), rB (numB s)] ∧ all = []) := by
  have n1 : (!true) = false := rfl
  have n2 : (!false) = true := rfl
  by_cases h5 : 5 < s.length
  · obtain ⟨f1, f2⟩ := num_f (w := s) fun h => absurd h (by omega)
    have e1 : decide ((0 : Int) < (s.length : Int)) = true := decide_eq_true (by omega)
    have e2 : decide ((s.length : Int) ≤ 5) = false := decide_eq_false (by omega)
    have e3 : decide ((s.length : Int) = 0) = false := decide_eq_false (by omega)
    have e4 : decide (5 < (s.length : Int)) = true := decide_eq_true (by omega)
    obtain ⟨c, hc⟩ : ∃ c, s[0]? = some c := ⟨_, List.getElem?_eq_getElem (by omega)⟩
    refine con_of_aw (vars := [.tmp 2, .tmp 3]) [(0, .r (rStr s))] [] 0 Tryd.func41 (by kernel_rfl) rfl Tryd.ntmps41 rfl (by decide) rfl rfl rfl rfl rfl ?_; intro B M w0 ρ0 Z0
    repeat' (first | (refine is_al ?_; (first | (refine is_assign ?_; refine al_v (opx_assign (.raw _)) ⟨rfl, trivial⟩ trivial rfl ?_) | refine al_nil ?_)) | (refine is_aw ?_; (first | refine aw_seq ?_ | refine aw_region ?_ | refine aw_block ?_)))
    refine aw_loop (γ := Unit) (fun _ => [(0, .r (rStr s)), (4, .i 0), (5, .i 0)]) (fun _ => []) (fun _ => 0) (fun _ => True) (fun _ => 0) () trivial (le_mk [] rfl rfl rfl rfl ⟨rfl, rfl, rfl, trivial⟩ trivial) ?_
    intro _ _
    by_cases hc45 : c = 45
    · have e5 : decide ((c.toNat : Int) = 45) = true := decide_eq_true (by rw [hc45]; rfl)
      repeat' (first | (refine is_al ?_; (first | (refine is_gd ?_; (first | refine al_on rfl rfl rfl (by assumption) ?_ | refine al_off rfl rfl rfl (by assumption) rfl ?_)) | (refine is_move ?_; refine al_v (opx_move (.raw _)) ⟨rfl, trivial⟩ trivial rfl ?_) | (refine is_bin ?_; (first | refine al_v opx_eql ⟨rfl, rfl, trivial⟩ trivial rfl ?_ | refine al_v opx_lss ⟨rfl, rfl, trivial⟩ trivial rfl ?_ | refine al_v opx_leq ⟨rfl, rfl, trivial⟩ trivial rfl ?_ | refine al_v opx_gtr ⟨rfl, rfl, trivial⟩ trivial rfl ?_)) | (refine is_assign ?_; refine al_v (opx_assign (.raw _)) ⟨rfl, trivial⟩ trivial rfl ?_) | (refine is_pick ?_; (first | refine al_v (opx_pick_t (.raw _) (by assumption)) ⟨rfl, rfl, trivial⟩ trivial rfl ?_ | refine al_v (opx_pick_f (.raw _) (by assumption)) ⟨rfl, rfl, trivial⟩ trivial rfl ?_)) | (refine is_bi ?_; refine al_v opx_len_str ⟨rfl, trivial⟩ trivial rfl ?_) | refine al_nil ?_ | refine al_v (opx_sidx (k := 0) rfl hc) ⟨rfl, rfl, trivial⟩ trivial rfl ?_ | refine al_v (opx_negE (r := 0) rfl (by unfold InR; omega)) ⟨rfl, trivial⟩ trivial rfl ?_)) | (refine is_ad ?_; (first | refine al_v (opx_sidx (k := 0) rfl hc) ⟨rfl, rfl, trivial⟩ trivial rfl ?_ | refine al_v (opx_negE (r := 0) rfl (by unfold InR; omega)) ⟨rfl, trivial⟩ trivial rfl ?_)) | (refine is_aw ?_; (first | refine aw_seq ?_ | refine aw_region ?_ | refine aw_ret ?_ | refine aw_exit ?_ | (refine is_cond ?_; (first | refine aw_cond_t rfl rfl ?_ | refine aw_cond_t rfl (by assumption) ?_ | refine aw_cond_f rfl (by assumption) ?_)))) | refine thn_r ?_)
      exact ret_raw2 trivial rfl rfl ⟨by rw [f1, f2], rfl⟩
    · have e5 : decide ((c.toNat : Int) = 45) = false := decide_eq_false fun h => hc45 (UInt8.toNat_inj.1 (by show c.toNat = 45; omega))
      repeat' (first | (refine is_al ?_; (first | (refine is_gd ?_; (first | refine al_on rfl rfl rfl (by assumption) ?_ | refine al_off rfl rfl rfl (by assumption) rfl ?_)) | (refine is_move ?_; refine al_v (opx_move (.raw _)) ⟨rfl, trivial⟩ trivial rfl ?_) | (refine is_bin ?_; (first | refine al_v opx_eql ⟨rfl, rfl, trivial⟩ trivial rfl ?_ | refine al_v opx_lss ⟨rfl, rfl, trivial⟩ trivial rfl ?_ | refine al_v opx_leq ⟨rfl, rfl, trivial⟩ trivial rfl ?_ | refine al_v opx_gtr ⟨rfl, rfl, trivial⟩ trivial rfl ?_)) | (refine is_assign ?_; refine al_v (opx_assign (.raw _)) ⟨rfl, trivial⟩ trivial rfl ?_) | (refine is_pick ?_; (first | refine al_v (opx_pick_t (.raw _) (by assumption)) ⟨rfl, rfl, trivial⟩ trivial rfl ?_ | refine al_v (opx_pick_f (.raw _) (by assumption)) ⟨rfl, rfl, trivial⟩ trivial rfl ?_)) | (refine is_bi ?_; refine al_v opx_len_str ⟨rfl, trivial⟩ trivial rfl ?_) | refine al_nil ?_ | refine al_v (opx_sidx (k := 0) rfl hc) ⟨rfl, rfl, trivial⟩ trivial rfl ?_)) | (refine is_ad ?_; refine al_v (opx_sidx (k := 0) rfl hc) ⟨rfl, rfl, trivial⟩ trivial rfl ?_) | (refine is_aw ?_; (first | refine aw_seq ?_ | refine aw_region ?_ | refine aw_skip ?_ | refine aw_ret ?_ | refine aw_exit ?_ | (refine is_cond ?_; (first | refine aw_cond_t rfl rfl ?_ | refine aw_cond_f rfl (by assumption) ?_)))) | refine thn_r ?_)
      exact ret_raw2 trivial rfl rfl ⟨by rw [f1, f2], rfl⟩
  · have e2 : decide ((s.length : Int) ≤ 5) = true := decide_eq_true (by omega)
    have e4 : decide (5 < (s.length : Int)) = false := decide_eq_false (by omega)
    refine con_of_aw (vars := [.tmp 2, .tmp 3]) [(0, .r (rStr s))] [] 0 Tryd.func41 (by kernel_rfl) rfl Tryd.ntmps41 rfl (by decide) rfl rfl rfl rfl rfl ?_; intro B M w0 ρ0 Z0
    repeat' (first | (refine is_al ?_; (first | (refine is_assign ?_; refine al_v (opx_assign (.raw _)) ⟨rfl, trivial⟩ trivial rfl ?_) | refine al_nil ?_)) | (refine is_aw ?_; (first | refine aw_seq ?_ | refine aw_region ?_ | refine aw_block ?_)))
    refine aw_loop (γ := Nat) (fun k => [(0, .r (rStr s)), (4, .i (vS (s.take k) : Int)), (5, .i (k : Int))]) (fun _ => []) (fun _ => 0) (fun k => k ≤ s.length ∧ okS (s.take k)) (fun k => s.length - k) 0 ⟨Nat.zero_le _, fun j c hj => by simp at hj⟩ (le_mk [] rfl rfl rfl rfl ⟨rfl, rfl, rfl, trivial⟩ trivial) ?_
    rintro k ⟨hk, ho⟩
    have hv := vS_le (s := s.take k) (k := k) (by rw [List.length_take]; omega) (by omega) ho
    rw [List.take_take, Nat.min_self] at hv
    rcases Nat.lt_or_ge k s.length with hlt | hge
    · have hc1 : decide ((k : Int) < (s.length : Int)) = true := decide_eq_true (by omega)
      obtain ⟨c, hc⟩ : ∃ c, s[k]? = some c := ⟨_, List.getElem?_eq_getElem hlt⟩
      have htk : s.take (k + 1) = s.take k ++ [c] := by rw [List.take_add_one, hc]; rfl
      have hc255 : c.toNat < 256 := c.toNat_lt
      by_cases hd : 48 ≤ (c.toNat : Int) ∧ (c.toNat : Int) ≤ 57
      · have d1 : decide (48 ≤ (c.toNat : Int) ∧ (c.toNat : Int) ≤ 57) = true := decide_eq_true hd
        repeat' (first | (refine is_al ?_; (first | (refine is_gd ?_; refine al_on rfl rfl rfl (by assumption) ?_) | (refine is_move ?_; refine al_v (opx_move (.raw _)) ⟨rfl, trivial⟩ trivial rfl ?_) | (refine is_bin ?_; (first | refine al_v opx_lss ⟨rfl, rfl, trivial⟩ trivial rfl ?_ | refine al_v opx_leq ⟨rfl, rfl, trivial⟩ trivial rfl ?_ | refine al_v (opx_add (by unfold InR; omega)) ⟨rfl, rfl, trivial⟩ trivial rfl ?_ | refine al_v (opx_sub (by unfold InR; omega)) ⟨rfl, rfl, trivial⟩ trivial rfl ?_ | refine al_v (opx_mul (by unfold InR; omega)) ⟨rfl, rfl, trivial⟩ trivial rfl ?_)) | (refine is_assign ?_; refine al_v (opx_assign (.raw _)) ⟨rfl, trivial⟩ trivial rfl ?_) | (refine is_pick ?_; refine al_v (opx_pick_t (.raw _) (by assumption)) ⟨rfl, rfl, trivial⟩ trivial rfl ?_) | (refine is_bi ?_; refine al_v opx_len_str ⟨rfl, trivial⟩ trivial rfl ?_) | (refine is_call ?_; refine al_callv2 (by (repeat (first | exact .nil | refine .one rfl rfl ?_ | refine .froz rfl rfl ?_ | refine .row rfl rfl ?_ | refine .rnil rfl ?_ | refine .agg rfl (by (repeat (first | exact .nil | refine .cons (.same rfl) ?_ | refine .cons (.froz rfl) ?_ | refine .cons (.rnil) ?_ | refine .cons (.row rfl rfl) ?_)); (first | done | fail)) ?_)); (first | done | fail)) rfl (c_inRange _ _ _) rfl ?_) | refine al_nil ?_ | refine al_v (opx_sidx (k := k) rfl hc) ⟨rfl, rfl, trivial⟩ trivial rfl ?_ | refine al_v (opx_intOf (by omega)) ⟨rfl, trivial⟩ trivial rfl ?_)) | (refine is_ad ?_; (first | refine al_v (opx_sidx (k := k) rfl hc) ⟨rfl, rfl, trivial⟩ trivial rfl ?_ | refine al_v (opx_intOf (by omega)) ⟨rfl, trivial⟩ trivial rfl ?_)) | (refine is_aw ?_; (first | refine aw_seq ?_ | refine aw_region ?_ | refine aw_skip ?_ | refine aw_block ?_ | (refine is_cond ?_; refine aw_cond_t rfl (by assumption) ?_))) | refine thn_n ?_)
        refine ⟨k + 1, ⟨hlt, by rw [htk]; exact okS_snoc ho (by omega)⟩, by omega, le_mk [] rfl rfl rfl rfl ⟨rfl, ?_, rfl, trivial⟩ trivial⟩
        rw [htk, vS_snoc (by omega)]
        show AV.i _ = AV.i _
        congr 1
        omega
      · have d1 : decide (48 ≤ (c.toNat : Int) ∧ (c.toNat : Int) ≤ 57) = false := decide_eq_false hd
        by_cases h0 : 0 < k
        · have d2 : decide (0 < (k : Int)) = true := decide_eq_true (by omega)
          obtain ⟨f1, f2⟩ := num_bad hc (by omega) (by omega)
          repeat' (first | (refine is_al ?_; (first | (refine is_gd ?_; (first | refine al_on rfl rfl rfl (by assumption) ?_ | refine al_off rfl rfl rfl (by assumption) rfl ?_)) | (refine is_move ?_; refine al_v (opx_move (.raw _)) ⟨rfl, trivial⟩ trivial rfl ?_) | (refine is_bin ?_; (first | refine al_v opx_lss ⟨rfl, rfl, trivial⟩ trivial rfl ?_ | refine al_v opx_leq ⟨rfl, rfl, trivial⟩ trivial rfl ?_ | refine al_v opx_gtr ⟨rfl, rfl, trivial⟩ trivial rfl ?_)) | (refine is_assign ?_; refine al_v (opx_assign (.raw _)) ⟨rfl, trivial⟩ trivial rfl ?_) | (refine is_pick ?_; refine al_v (opx_pick_t (.raw _) (by assumption)) ⟨rfl, rfl, trivial⟩ trivial rfl ?_) | (refine is_bi ?_; refine al_v opx_len_str ⟨rfl, trivial⟩ trivial rfl ?_) | (refine is_call ?_; refine al_callv2 (by (repeat (first | exact .nil | refine .one rfl rfl ?_ | refine .froz rfl rfl ?_ | refine .row rfl rfl ?_ | refine .rnil rfl ?_ | refine .agg rfl (by (repeat (first | exact .nil | refine .cons (.same rfl) ?_ | refine .cons (.froz rfl) ?_ | refine .cons (.rnil) ?_ | refine .cons (.row rfl rfl) ?_)); (first | done | fail)) ?_)); (first | done | fail)) rfl (c_inRange _ _ _) rfl ?_) | refine al_nil ?_ | refine al_v (opx_sidx (k := k) rfl hc) ⟨rfl, rfl, trivial⟩ trivial rfl ?_ | refine al_v (opx_intOf (by omega)) ⟨rfl, trivial⟩ trivial rfl ?_)) | (refine is_ad ?_; (first | refine al_v (opx_sidx (k := k) rfl hc) ⟨rfl, rfl, trivial⟩ trivial rfl ?_ | refine al_v (opx_intOf (by omega)) ⟨rfl, trivial⟩ trivial rfl ?_)) | (refine is_aw ?_; (first | refine aw_seq ?_ | refine aw_region ?_ | refine aw_skip ?_ | refine aw_block ?_ | refine aw_ret ?_ | (refine is_cond ?_; (first | refine aw_cond_t rfl rfl ?_ | refine aw_cond_t rfl (by assumption) ?_ | refine aw_cond_f rfl (by assumption) ?_)))) | refine thn_r ?_ | refine inb_r ?_)
          exact ret_raw2 trivial rfl rfl ⟨by rw [f1, f2], rfl⟩
        · obtain rfl : k = 0 := by omega
          have d2 : decide (0 < ((0 : Nat) : Int)) = false := rfl
          by_cases h45 : c = 45
          · have d3 : (!decide ((c.toNat : Int) = 45)) = false := by rw [h45]; rfl
            repeat' (first | (refine is_al ?_; (first | (refine is_gd ?_; refine al_on rfl rfl rfl (by assumption) ?_) | (refine is_move ?_; refine al_v (opx_move (.raw _)) ⟨rfl, trivial⟩ trivial rfl ?_) | (refine is_bin ?_; (first | refine al_v opx_neq ⟨rfl, rfl, trivial⟩ trivial rfl ?_ | refine al_v opx_lss ⟨rfl, rfl, trivial⟩ trivial rfl ?_ | refine al_v opx_leq ⟨rfl, rfl, trivial⟩ trivial rfl ?_ | refine al_v opx_gtr ⟨rfl, rfl, trivial⟩ trivial rfl ?_ | refine al_v (opx_add (by unfold InR; omega)) ⟨rfl, rfl, trivial⟩ trivial rfl ?_)) | (refine is_assign ?_; refine al_v (opx_assign (.raw _)) ⟨rfl, trivial⟩ trivial rfl ?_) | (refine is_pick ?_; (first | refine al_v (opx_pick_f (.raw _) rfl) ⟨rfl, rfl, trivial⟩ trivial rfl ?_ | refine al_v (opx_pick_t (.raw _) (by assumption)) ⟨rfl, rfl, trivial⟩ trivial rfl ?_)) | (refine is_bi ?_; refine al_v opx_len_str ⟨rfl, trivial⟩ trivial rfl ?_) | (refine is_call ?_; refine al_callv2 (by (repeat (first | exact .nil | refine .one rfl rfl ?_ | refine .froz rfl rfl ?_ | refine .row rfl rfl ?_ | refine .rnil rfl ?_ | refine .agg rfl (by (repeat (first | exact .nil | refine .cons (.same rfl) ?_ | refine .cons (.froz rfl) ?_ | refine .cons (.rnil) ?_ | refine .cons (.row rfl rfl) ?_)); (first | done | fail)) ?_)); (first | done | fail)) rfl (c_inRange _ _ _) rfl ?_) | refine al_nil ?_ | refine al_v (opx_sidx (k := 0) rfl hc) ⟨rfl, rfl, trivial⟩ trivial rfl ?_ | refine al_v (opx_intOf (by omega)) ⟨rfl, trivial⟩ trivial rfl ?_)) | (refine is_ad ?_; (first | refine al_v (opx_sidx (k := 0) rfl hc) ⟨rfl, rfl, trivial⟩ trivial rfl ?_ | refine al_v (opx_intOf (by omega)) ⟨rfl, trivial⟩ trivial rfl ?_)) | (refine is_aw ?_; (first | refine aw_seq ?_ | refine aw_region ?_ | refine aw_skip ?_ | refine aw_block ?_ | (refine is_cond ?_; (first | refine aw_cond_t rfl (by assumption) ?_ | refine aw_cond_f rfl (by assumption) ?_)))) | refine thn_n ?_)
            refine ⟨1, ⟨hlt, by rw [htk]; intro j d hj; cases j with | zero => simp at hj; exact .inr ⟨rfl, by rw [← hj, h45]⟩ | succ j => simp at hj⟩, by omega, le_mk [] rfl rfl rfl rfl ⟨rfl, ?_, rfl, trivial⟩ trivial⟩
            rw [htk, h45]; rfl
          · have d3 : (!decide ((c.toNat : Int) = 45)) = true := by rw [decide_eq_false fun h => h45 (UInt8.toNat_inj.1 (by show c.toNat = 45; omega))]; rfl
            obtain ⟨f1, f2⟩ := num_bad hc (by omega) (fun h => h45 h.2)
            repeat' (first | (refine is_al ?_; (first | (refine is_gd ?_; refine al_on rfl rfl rfl (by assumption) ?_) | (refine is_move ?_; refine al_v (opx_move (.raw _)) ⟨rfl, trivial⟩ trivial rfl ?_) | (refine is_bin ?_; (first | refine al_v opx_neq ⟨rfl, rfl, trivial⟩ trivial rfl ?_ | refine al_v opx_lss ⟨rfl, rfl, trivial⟩ trivial rfl ?_ | refine al_v opx_leq ⟨rfl, rfl, trivial⟩ trivial rfl ?_ | refine al_v opx_gtr ⟨rfl, rfl, trivial⟩ trivial rfl ?_)) | (refine is_assign ?_; refine al_v (opx_assign (.raw _)) ⟨rfl, trivial⟩ trivial rfl ?_) | (refine is_pick ?_; (first | refine al_v (opx_pick_f (.raw _) rfl) ⟨rfl, rfl, trivial⟩ trivial rfl ?_ | refine al_v (opx_pick_t (.raw _) (by assumption)) ⟨rfl, rfl, trivial⟩ trivial rfl ?_)) | (refine is_bi ?_; refine al_v opx_len_str ⟨rfl, trivial⟩ trivial rfl ?_) | (refine is_call ?_; refine al_callv2 (by (repeat (first | exact .nil | refine .one rfl rfl ?_ | refine .froz rfl rfl ?_ | refine .row rfl rfl ?_ | refine .rnil rfl ?_ | refine .agg rfl (by (repeat (first | exact .nil | refine .cons (.same rfl) ?_ | refine .cons (.froz rfl) ?_ | refine .cons (.rnil) ?_ | refine .cons (.row rfl rfl) ?_)); (first | done | fail)) ?_)); (first | done | fail)) rfl (c_inRange _ _ _) rfl ?_) | refine al_nil ?_ | refine al_v (opx_sidx (k := 0) rfl hc) ⟨rfl, rfl, trivial⟩ trivial rfl ?_ | refine al_v (opx_intOf (by omega)) ⟨rfl, trivial⟩ trivial rfl ?_)) | (refine is_ad ?_; (first | refine al_v (opx_sidx (k := 0) rfl hc) ⟨rfl, rfl, trivial⟩ trivial rfl ?_ | refine al_v (opx_intOf (by omega)) ⟨rfl, trivial⟩ trivial rfl ?_)) | (refine is_aw ?_; (first | refine aw_seq ?_ | refine aw_region ?_ | refine aw_skip ?_ | refine aw_block ?_ | refine aw_ret ?_ | (refine is_cond ?_; (first | refine aw_cond_t rfl (by assumption) ?_ | refine aw_cond_f rfl (by assumption) ?_)))) | refine thn_r ?_ | refine inb_r ?_)
            exact ret_raw2 trivial rfl rfl ⟨by rw [f1, f2], rfl⟩
    · have hc1 : decide ((k : Int) < (s.length : Int)) = false := decide_eq_false (by omega)
      rw [List.take_of_length_le hge] at hv ho ⊢
      by_cases hnil : s = []
      · subst hnil
        obtain ⟨f1, f2⟩ := num_f (w := []) fun _ n hn => itoa_ne hn
        have e0 : decide ((0 : Int) < (([] : Str).length : Int)) = false := rfl
        have e3 : decide ((([] : Str).length : Int) = 0) = true := rfl
        repeat' (first | (refine is_al ?_; (first | (refine is_gd ?_; refine al_off rfl rfl rfl (by assumption) rfl ?_) | (refine is_move ?_; refine al_v (opx_move (.raw _)) ⟨rfl, trivial⟩ trivial rfl ?_) | (refine is_bin ?_; (first | refine al_v opx_eql ⟨rfl, rfl, trivial⟩ trivial rfl ?_ | refine al_v opx_lss ⟨rfl, rfl, trivial⟩ trivial rfl ?_ | refine al_v opx_gtr ⟨rfl, rfl, trivial⟩ trivial rfl ?_)) | (refine is_assign ?_; refine al_v (opx_assign (.raw _)) ⟨rfl, trivial⟩ trivial rfl ?_) | (refine is_pick ?_; (first | refine al_v (opx_pick_t (.raw _) rfl) ⟨rfl, rfl, trivial⟩ trivial rfl ?_ | refine al_v (opx_pick_f (.raw _) rfl) ⟨rfl, rfl, trivial⟩ trivial rfl ?_)) | (refine is_bi ?_; refine al_v opx_len_str ⟨rfl, trivial⟩ trivial rfl ?_) | refine al_nil ?_)) | (refine is_aw ?_; (first | refine aw_seq ?_ | refine aw_region ?_ | refine aw_skip ?_ | refine aw_ret ?_ | refine aw_exit ?_ | (refine is_cond ?_; (first | refine aw_cond_t rfl rfl ?_ | refine aw_cond_f rfl rfl ?_)))) | refine thn_r ?_)
        exact ret_raw2 trivial rfl rfl ⟨by rw [f1, f2], rfl⟩
      · have hlen : 0 < s.length := List.length_pos_iff.2 hnil
        have e0 : decide ((0 : Int) < (s.length : Int)) = true := decide_eq_true (by omega)
        have e3 : decide ((s.length : Int) = 0) = false := decide_eq_false (by omega)
        obtain ⟨c, hc⟩ : ∃ c, s[0]? = some c := ⟨_, List.getElem?_eq_getElem hlen⟩
        by_cases h45 : c = 45
        · have e5 : decide ((c.toNat : Int) = 45) = true := decide_eq_true (by rw [h45]; rfl)
          by_cases hi : Lib.itoa (-(vS s : Int)) = s
          · obtain ⟨f1, f2⟩ := num_t (w := s) (by omega) hi
            have e6 : (!decide (Lib.itoa (-(vS s : Int)) = s)) = false := by rw [decide_eq_true hi]; rfl
            repeat' (first | (refine is_al ?_; (first | (refine is_gd ?_; (first | refine al_on rfl rfl rfl (by assumption) ?_ | refine al_off rfl rfl rfl (by assumption) rfl ?_)) | (refine is_move ?_; refine al_v (opx_move (.raw _)) ⟨rfl, trivial⟩ trivial rfl ?_) | (refine is_bin ?_; (first | refine al_v opx_eql ⟨rfl, rfl, trivial⟩ trivial rfl ?_ | refine al_v opx_lss ⟨rfl, rfl, trivial⟩ trivial rfl ?_ | refine al_v opx_gtr ⟨rfl, rfl, trivial⟩ trivial rfl ?_ | refine al_v opx_sneq ⟨rfl, rfl, trivial⟩ trivial rfl ?_)) | (refine is_assign ?_; refine al_v (opx_assign (.raw _)) ⟨rfl, trivial⟩ trivial rfl ?_) | (refine is_pick ?_; (first | refine al_v (opx_pick_t (.raw _) (by assumption)) ⟨rfl, rfl, trivial⟩ trivial rfl ?_ | refine al_v (opx_pick_f (.raw _) (by assumption)) ⟨rfl, rfl, trivial⟩ trivial rfl ?_)) | (refine is_bi ?_; refine al_v opx_len_str ⟨rfl, trivial⟩ trivial rfl ?_) | (refine is_call ?_; refine al_callv2 (by (repeat (first | exact .nil | refine .one rfl rfl ?_ | refine .froz rfl rfl ?_ | refine .row rfl rfl ?_ | refine .rnil rfl ?_ | refine .agg rfl (by (repeat (first | exact .nil | refine .cons (.same rfl) ?_ | refine .cons (.froz rfl) ?_ | refine .cons (.rnil) ?_ | refine .cons (.row rfl rfl) ?_)); (first | done | fail)) ?_)); (first | done | fail)) rfl (c_decimal _ (by omega)) rfl ?_) | refine al_nil ?_ | refine al_v (opx_sidx (k := 0) rfl hc) ⟨rfl, rfl, trivial⟩ trivial rfl ?_ | refine al_v (opx_negE (r := -(vS s : Int)) rfl (by unfold InR; omega)) ⟨rfl, trivial⟩ trivial rfl ?_)) | (refine is_ad ?_; (first | refine al_v (opx_sidx (k := 0) rfl hc) ⟨rfl, rfl, trivial⟩ trivial rfl ?_ | refine al_v (opx_negE (r := -(vS s : Int)) rfl (by unfold InR; omega)) ⟨rfl, trivial⟩ trivial rfl ?_)) | (refine is_aw ?_; (first | refine aw_seq ?_ | refine aw_region ?_ | refine aw_skip ?_ | refine aw_ret ?_ | refine aw_exit ?_ | (refine is_cond ?_; (first | refine aw_cond_f rfl rfl ?_ | refine aw_cond_t rfl (by assumption) ?_ | refine aw_cond_f rfl (by assumption) ?_)))))
            exact ret_raw2 trivial rfl rfl ⟨by rw [f1, f2], rfl⟩
          · obtain ⟨f1, f2⟩ := num_f (w := s) fun _ => vS_same (n := -(vS s : Int)) (by omega) (fun _ => by rw [hc, h45]) (fun _ => by omega) hi
            have e6 : (!decide (Lib.itoa (-(vS s : Int)) = s)) = true := by rw [decide_eq_false hi]; rfl
            repeat' (first | (refine is_al ?_; (first | (refine is_gd ?_; (first | refine al_on rfl rfl rfl (by assumption) ?_ | refine al_off rfl rfl rfl (by assumption) rfl ?_)) | (refine is_move ?_; refine al_v (opx_move (.raw _)) ⟨rfl, trivial⟩ trivial rfl ?_) | (refine is_bin ?_; (first | refine al_v opx_eql ⟨rfl, rfl, trivial⟩ trivial rfl ?_ | refine al_v opx_lss ⟨rfl, rfl, trivial⟩ trivial rfl ?_ | refine al_v opx_gtr ⟨rfl, rfl, trivial⟩ trivial rfl ?_ | refine al_v opx_sneq ⟨rfl, rfl, trivial⟩ trivial rfl ?_)) | (refine is_assign ?_; refine al_v (opx_assign (.raw _)) ⟨rfl, trivial⟩ trivial rfl ?_) | (refine is_pick ?_; (first | refine al_v (opx_pick_t (.raw _) (by assumption)) ⟨rfl, rfl, trivial⟩ trivial rfl ?_ | refine al_v (opx_pick_f (.raw _) (by assumption)) ⟨rfl, rfl, trivial⟩ trivial rfl ?_)) | (refine is_bi ?_; refine al_v opx_len_str ⟨rfl, trivial⟩ trivial rfl ?_) | (refine is_call ?_; refine al_callv2 (by (repeat (first | exact .nil | refine .one rfl rfl ?_ | refine .froz rfl rfl ?_ | refine .row rfl rfl ?_ | refine .rnil rfl ?_ | refine .agg rfl (by (repeat (first | exact .nil | refine .cons (.same rfl) ?_ | refine .cons (.froz rfl) ?_ | refine .cons (.rnil) ?_ | refine .cons (.row rfl rfl) ?_)); (first | done | fail)) ?_)); (first | done | fail)) rfl (c_decimal _ (by omega)) rfl ?_) | refine al_nil ?_ | refine al_v (opx_sidx (k := 0) rfl hc) ⟨rfl, rfl, trivial⟩ trivial rfl ?_ | refine al_v (opx_negE (r := -(vS s : Int)) rfl (by unfold InR; omega)) ⟨rfl, trivial⟩ trivial rfl ?_)) | (refine is_ad ?_; (first | refine al_v (opx_sidx (k := 0) rfl hc) ⟨rfl, rfl, trivial⟩ trivial rfl ?_ | refine al_v (opx_negE (r := -(vS s : Int)) rfl (by unfold InR; omega)) ⟨rfl, trivial⟩ trivial rfl ?_)) | (refine is_aw ?_; (first | refine aw_seq ?_ | refine aw_region ?_ | refine aw_ret ?_ | refine aw_exit ?_ | (refine is_cond ?_; (first | refine aw_cond_f rfl rfl ?_ | refine aw_cond_t rfl (by assumption) ?_)))) | refine thn_r ?_)
            exact ret_raw2 trivial rfl rfl ⟨by rw [f1, f2], rfl⟩
        · have e5 : decide ((c.toNat : Int) = 45) = false := decide_eq_false fun h => h45 (UInt8.toNat_inj.1 (by show c.toNat = 45; omega))
          by_cases hi : Lib.itoa (vS s : Int) = s
          · obtain ⟨f1, f2⟩ := num_t (w := s) (by omega) hi
            have e6 : (!decide (Lib.itoa (vS s : Int) = s)) = false := by rw [decide_eq_true hi]; rfl
            repeat' (first | (refine is_al ?_; (first | (refine is_gd ?_; (first | refine al_on rfl rfl rfl (by assumption) ?_ | refine al_off rfl rfl rfl (by assumption) rfl ?_)) | (refine is_move ?_; refine al_v (opx_move (.raw _)) ⟨rfl, trivial⟩ trivial rfl ?_) | (refine is_bin ?_; (first | refine al_v opx_eql ⟨rfl, rfl, trivial⟩ trivial rfl ?_ | refine al_v opx_lss ⟨rfl, rfl, trivial⟩ trivial rfl ?_ | refine al_v opx_gtr ⟨rfl, rfl, trivial⟩ trivial rfl ?_ | refine al_v opx_sneq ⟨rfl, rfl, trivial⟩ trivial rfl ?_)) | (refine is_assign ?_; refine al_v (opx_assign (.raw _)) ⟨rfl, trivial⟩ trivial rfl ?_) | (refine is_pick ?_; (first | refine al_v (opx_pick_t (.raw _) (by assumption)) ⟨rfl, rfl, trivial⟩ trivial rfl ?_ | refine al_v (opx_pick_f (.raw _) (by assumption)) ⟨rfl, rfl, trivial⟩ trivial rfl ?_)) | (refine is_bi ?_; refine al_v opx_len_str ⟨rfl, trivial⟩ trivial rfl ?_) | (refine is_call ?_; refine al_callv2 (by (repeat (first | exact .nil | refine .one rfl rfl ?_ | refine .froz rfl rfl ?_ | refine .row rfl rfl ?_ | refine .rnil rfl ?_ | refine .agg rfl (by (repeat (first | exact .nil | refine .cons (.same rfl) ?_ | refine .cons (.froz rfl) ?_ | refine .cons (.rnil) ?_ | refine .cons (.row rfl rfl) ?_)); (first | done | fail)) ?_)); (first | done | fail)) rfl (c_decimal _ (by omega)) rfl ?_) | refine al_nil ?_ | refine al_v (opx_sidx (k := 0) rfl hc) ⟨rfl, rfl, trivial⟩ trivial rfl ?_)) | (refine is_ad ?_; refine al_v (opx_sidx (k := 0) rfl hc) ⟨rfl, rfl, trivial⟩ trivial rfl ?_) | (refine is_aw ?_; (first | refine aw_seq ?_ | refine aw_region ?_ | refine aw_skip ?_ | refine aw_ret ?_ | refine aw_exit ?_ | (refine is_cond ?_; (first | refine aw_cond_f rfl rfl ?_ | refine aw_cond_f rfl (by assumption) ?_)))))
            exact ret_raw2 trivial rfl rfl ⟨by rw [f1, f2], rfl⟩
          · obtain ⟨f1, f2⟩ := num_f (w := s) fun _ => vS_same (n := (vS s : Int)) (by omega) (fun h => by omega) (fun h => by rw [hc] at h; exact absurd (Option.some.inj h) h45) hi
            have e6 : (!decide (Lib.itoa (vS s : Int) = s)) = true := by rw [decide_eq_false hi]; rfl
            repeat' (first | (refine is_al ?_; (first | (refine is_gd ?_; (first | refine al_on rfl rfl rfl (by assumption) ?_ | refine al_off rfl rfl rfl (by assumption) rfl ?_)) | (refine is_move ?_; refine al_v (opx_move (.raw _)) ⟨rfl, trivial⟩ trivial rfl ?_) | (refine is_bin ?_; (first | refine al_v opx_eql ⟨rfl, rfl, trivial⟩ trivial rfl ?_ | refine al_v opx_lss ⟨rfl, rfl, trivial⟩ trivial rfl ?_ | refine al_v opx_gtr ⟨rfl, rfl, trivial⟩ trivial rfl ?_ | refine al_v opx_sneq ⟨rfl, rfl, trivial⟩ trivial rfl ?_)) | (refine is_assign ?_; refine al_v (opx_assign (.raw _)) ⟨rfl, trivial⟩ trivial rfl ?_) | (refine is_pick ?_; (first | refine al_v (opx_pick_t (.raw _) (by assumption)) ⟨rfl, rfl, trivial⟩ trivial rfl ?_ | refine al_v (opx_pick_f (.raw _) (by assumption)) ⟨rfl, rfl, trivial⟩ trivial rfl ?_)) | (refine is_bi ?_; refine al_v opx_len_str ⟨rfl, trivial⟩ trivial rfl ?_) | (refine is_call ?_; refine al_callv2 (by (repeat (first | exact .nil | refine .one rfl rfl ?_ | refine .froz rfl rfl ?_ | refine .row rfl rfl ?_ | refine .rnil rfl ?_ | refine .agg rfl (by (repeat (first | exact .nil | refine .cons (.same rfl) ?_ | refine .cons (.froz rfl) ?_ | refine .cons (.rnil) ?_ | refine .cons (.row rfl rfl) ?_)); (first | done | fail)) ?_)); (first | done | fail)) rfl (c_decimal _ (by omega)) rfl ?_) | refine al_nil ?_ | refine al_v (opx_sidx (k := 0) rfl hc) ⟨rfl, rfl, trivial⟩ trivial rfl ?_)) | (refine is_ad ?_; refine al_v (opx_sidx (k := 0) rfl hc) ⟨rfl, rfl, trivial⟩ trivial rfl ?_) | (refine is_aw ?_; (first | refine aw_seq ?_ | refine aw_region ?_ | refine aw_skip ?_ | refine aw_ret ?_ | refine aw_exit ?_ | (refine is_cond ?_; (first | refine aw_cond_f rfl rfl ?_ | refine aw_cond_t rfl (by assumption) ?_ | refine aw_cond_f rfl (by assumption) ?_)))) | refine thn_r ?_)
            exact ret_raw2 trivial rfl rfl ⟨by rw [f1, f2], rfl⟩
end Go.Proofs.YtllgddednlfhfaaDoor

/-
  Lines: what is read from their words.
-/
namespace Go.Proofs.YtllgddednlfhfaaDoor
open Go.RowKit
set_option linter.unusedVariables false
set_option linter.unusedSimpArgs false
attribute [local irreducible] AL AW OpX Le AD

section ends
variable {P : Program} {Post : List AR → List OB → Prop} {e : Exit} {l : SL} {m : OL} {n t t2 t3 u u2 : Nat}
theorem ret_row_cell_raw {wd : Nat} {el el2 ty : TypeId} {rows : List (List CV)} {cells : List A1} {v : Value} {u2 : Nat} (he : isEnd e) (h : lk .dead l t = .own u) (hr : lk .gone m u = .row wd el rows) (h2 : lk .dead l t2 = .ref u2 0) (hb : lk .gone m u2 = .box el2 cells) (hs : strTy P ty = some cells.length)
    (hsub : AR.sub (perm [u]) (.agg cells) = .agg cells) (h3 : lk .dead l t3 = .raw v) (ht : resTags [.one (.own 0), .agg cells, .one (.c (.raw v))] [.row wd el rows] = true) (hp : Post [.one (.own 0), .agg cells, .one (.c (.raw v))] [.row wd el rows]) : RetG P [.tmp t, .cell t2 ty, .tmp t3] 0 Post e l m n :=
  retg_mk he [.one (.own 0), .agg cells, .one (.c (.raw v))] [.row wd el rows] [u] hp (Nat.zero_le _) rfl rfl rfl ht ⟨h, ⟨u2, el2, cells, h2, hb, .inl ⟨hs, hsub⟩⟩, h3, trivial⟩ ⟨hr, trivial⟩
end ends
def ptB (t v : Int) : Bool := decide (0 ≤ t ∧ t ≤ 1000 ∧ -1000 ≤ v ∧ v ≤ 1000)
noncomputable def plW (a b c : Str) : Bool := prsB a && (numB b && (numB c && ptB (numN c) (numN b)))
noncomputable def plO (s : Str) : Option (List Lb × Int × Int) := match spl 32 s with
  | [a, b, c] => if plW a b c = true then some (prsL a, numN c, numN b) else none
  | _ => none
noncomputable def plB (s : Str) : Bool := (plO s).isSome
noncomputable def plG (s : Str) : List Lb × Int × Int := (plO s).getD ([], 0, 0)
theorem pl_none {s : Str} (h : plO s = none) : plB s = false ∧ plG s = ([], 0, 0) := by rw [plB, plG, h]; exact ⟨rfl, rfl⟩
theorem pl_three {s a b c : Str} (h : spl 32 s = [a, b, c]) : plO s = if plW a b c = true then some (prsL a, numN c, numN b) else none := by unfold plO; rw [h]
theorem pl_other {s : Str} (h : (spl 32 s).length ≠ 3) : plO s = none := by
  unfold plO
  split
  · rename_i a b c e; rw [e] at h; exact absurd rfl h
  · rfl
theorem pl_f {s a b c : Str} (h : spl 32 s = [a, b, c]) (hw : plW a b c = false) : plB s = false ∧ plG s = ([], 0, 0) := pl_none (by rw [pl_three h, hw]; rfl)
theorem pl_t {s a b c : Str} (h : spl 32 s = [a, b, c]) (hw : plW a b c = true) : plB s = true ∧ plG s = (prsL a, numN c, numN b) := by
  rw [plB, plG, pl_three h, if_pos hw]; exact ⟨rfl, rfl⟩
theorem pl_of {s : Str} (h : plB s = true) : ∃ a b c, spl 32 s = [a, b, c] ∧ plW a b c = true ∧ plG s = (prsL a, numN c, numN b) := by
  cases ho : plO s with
  | none => rw [plB, ho] at h; cases h
  | some g =>
    unfold plO at ho
    split at ho
    · rename_i a b c e
      split at ho
      · rename_i hw
        exact ⟨a, b, c, e, hw, (pl_t e hw).2⟩
      · cases ho
    · cases ho
def PLs (s : Str) (rs : List AR) (all : List OB) : Prop := rs = [.one (.own 0), ptA (plG s).2.1 (plG s).2.2, rB (plB s)] ∧ all = [.row 2 52 (lbRs (plG s).1)]
theorem c_ParseLine (s : Str) (hs : s.length ≤ 100000000) : Con Tryd.prog 18 [rStr s] [] (PLs s) := by
  have n1 : (!true) = false := rfl
  have n2 : (!false) = true := rfl
  have hcs := c_Split s (by omega)
  have hl := stRs_len (xs := spl 32 s)
  by_cases h3 : (spl 32 s).length = 3
  · obtain ⟨a, b, c, e⟩ : ∃ a b c, spl 32 s = [a, b, c] := by
      match h : spl 32 s, h3 with
      | [a, b, c], _ => exact ⟨a, b, c, rfl⟩
    have ha := spl_leW (c := 32) (s := s) a (by rw [e]; simp)
    have hb := spl_leW (c := 32) (s := s) b (by rw [e]; simp)
    have hc := spl_leW (c := 32) (s := s) c (by rw [e]; simp)
    rw [e] at hcs
    clear hl
    have d3 : (!decide (((stRs [a, b, c]).length : Int) = 3)) = false := rfl
    have i0 : (stRs [a, b, c])[0]? = some (stR a) := rfl
    have i1 : (stRs [a, b, c])[1]? = some (stR b) := rfl
    have i2 : (stRs [a, b, c])[2]? = some (stR c) := rfl
    have c1 : Con Tryd.prog 24 [rStr a] [] (fun rs all => rs = [.one (.own 0), rB (prsB a)] ∧ all = [.row 2 52 (lbRs (prsL a))]) := c_ParseLabels a (by omega)
    have c2 := c_numberOf b
    have c3 := c_numberOf c
    have c4 := c_validPoint (numN c) (numN b)
    have p4 : decide (0 ≤ numN c ∧ numN c ≤ 1000 ∧ -1000 ≤ numN b ∧ numN b ≤ 1000) = ptB (numN c) (numN b) := rfl
    rw [p4] at c4
    cases g1 : prsB a with
    | false =>
      obtain ⟨f1, f2⟩ := pl_f e (by rw [plW, g1]; rfl)
      rw [g1] at c1
      refine con_of_aw (vars := [.tmp 2, .cell 3 29, .tmp 4]) [(0, .r (rStr s))] [] 0 Tryd.func18 (by kernel_rfl) rfl Tryd.ntmps18 rfl (by decide) rfl rfl rfl rfl rfl ?_; intro B M w0 ρ0 Z0
      repeat' (first | (refine is_al ?_; (first | (refine is_gd ?_; refine al_off rfl rfl rfl (by assumption) rfl ?_) | (refine is_move ?_; (first | refine al_v (opx_move (.raw _)) ⟨rfl, trivial⟩ trivial rfl ?_ | refine al_v (opx_move (.sl _ _)) ⟨rfl, trivial⟩ trivial rfl ?_ | refine al_v (opx_move (.tup _)) ⟨rfl, trivial⟩ trivial rfl ?_)) | (refine is_bin ?_; refine al_v opx_neq ⟨rfl, rfl, trivial⟩ trivial rfl ?_) | (refine is_load ?_; refine al_v opx_ld_imm ⟨rfl, trivial⟩ trivial rfl ?_) | (refine is_assign ?_; (first | refine al_v (opx_assign (.raw _)) ⟨rfl, trivial⟩ trivial rfl ?_ | refine al_v (opx_assign (.sl _ _)) ⟨rfl, trivial⟩ trivial rfl ?_ | refine al_v (opx_assign (.own _)) ⟨rfl, trivial⟩ trivial rfl ?_)) | (refine is_pick ?_; refine al_v (opx_pick_t (.raw _) rfl) ⟨rfl, rfl, trivial⟩ trivial rfl ?_) | (refine is_bi ?_; refine al_v opx_len_sl ⟨rfl, trivial⟩ trivial rfl ?_) | (refine is_ia ?_; (first | refine al_v (opx_ia_sl2 i0 (by omega)) ⟨rfl, rfl, trivial⟩ trivial rfl ?_ | refine al_v (opx_ia_sl2 i1 (by omega)) ⟨rfl, rfl, trivial⟩ trivial rfl ?_ | refine al_v (opx_ia_sl2 i2 (by omega)) ⟨rfl, rfl, trivial⟩ trivial rfl ?_)) | (refine is_call ?_; (first | refine al_callF (by (repeat (first | exact .nil | refine .one rfl rfl ?_ | refine .froz rfl rfl ?_ | refine .rnil rfl ?_ | refine .agg rfl (by (repeat (first | exact .nil | refine .cons (.same rfl) ?_ | refine .cons (.froz rfl) ?_ | refine .cons (.rnil) ?_)); (first | done | fail)) ?_)); (first | done | fail)) rfl (hcs) rfl ?_ | refine al_callrv2 (by (repeat (first | exact .nil | refine .one rfl rfl ?_ | refine .froz rfl rfl ?_ | refine .rnil rfl ?_ | refine .agg rfl (by (repeat (first | exact .nil | refine .cons (.same rfl) ?_ | refine .cons (.froz rfl) ?_ | refine .cons (.rnil) ?_)); (first | done | fail)) ?_)); (first | done | fail)) rfl (c1) ?_ | refine al_callv2 (by (repeat (first | exact .nil | refine .one rfl rfl ?_ | refine .froz rfl rfl ?_ | refine .row rfl rfl ?_ | refine .rnil rfl ?_ | refine .agg rfl (by (repeat (first | exact .nil | refine .cons (.same rfl) ?_ | refine .cons (.froz rfl) ?_ | refine .cons (.rnil) ?_ | refine .cons (.row rfl rfl) ?_)); (first | done | fail)) ?_)); (first | done | fail)) rfl (c2) rfl ?_ | refine al_callv2 (by (repeat (first | exact .nil | refine .one rfl rfl ?_ | refine .froz rfl rfl ?_ | refine .row rfl rfl ?_ | refine .rnil rfl ?_ | refine .agg rfl (by (repeat (first | exact .nil | refine .cons (.same rfl) ?_ | refine .cons (.froz rfl) ?_ | refine .cons (.rnil) ?_ | refine .cons (.row rfl rfl) ?_)); (first | done | fail)) ?_)); (first | done | fail)) rfl (c3) rfl ?_)) | (refine is_st ?_; refine al_s (opx_sts_box (by rfl) (by rfl)) ⟨rfl, rfl, trivial⟩ ⟨rfl, trivial⟩ ?_) | refine al_v opx_not ⟨rfl, trivial⟩ trivial rfl ?_ | refine al_v (opx_extract _ rfl) ⟨rfl, trivial⟩ trivial rfl ?_ | refine al_v (opx_build2 (res := [_, _]) rfl) ⟨rfl, rfl, trivial⟩ trivial rfl ?_ | refine al_n opx_alloc trivial trivial rfl ?_ | refine al_nil ?_ | refine al_v opx_build0 trivial trivial rfl ?_)) | (refine is_ad ?_; refine al_v opx_build0 trivial trivial rfl ?_) | (refine is_aw ?_; (first | refine aw_seq ?_ | refine aw_region ?_ | refine aw_skip ?_ | (refine is_cond ?_; (first | refine aw_cond_t rfl rfl ?_ | refine aw_cond_f rfl rfl ?_)))) | refine thn_n ?_)
      refine aw_le (le_ownNil 2 2 52 rfl) ?_
      repeat' (first | (refine is_aw ?_; refine aw_ret ?_) | refine thn_r ?_)
      exact ret_row_cell_raw trivial rfl rfl rfl rfl (by kernel_rfl) rfl rfl rfl ⟨by rw [f1, f2]; rfl, by rw [f2]; rfl⟩
    | true =>
      cases g2 : numB b with
      | false =>
        obtain ⟨f1, f2⟩ := pl_f e (by rw [plW, g1, g2]; rfl)
        rw [g1] at c1
        rw [g2] at c2
        refine con_of_aw (vars := [.tmp 2, .cell 3 29, .tmp 4]) [(0, .r (rStr s))] [] 0 Tryd.func18 (by kernel_rfl) rfl Tryd.ntmps18 rfl (by decide) rfl rfl rfl rfl rfl ?_; intro B M w0 ρ0 Z0
        repeat' (first | (refine is_al ?_; (first | (refine is_gd ?_; (first | refine al_on rfl rfl rfl (by assumption) ?_ | refine al_off rfl rfl rfl (by assumption) rfl ?_)) | (refine is_move ?_; (first | refine al_v (opx_move (.raw _)) ⟨rfl, trivial⟩ trivial rfl ?_ | refine al_v (opx_move (.sl _ _)) ⟨rfl, trivial⟩ trivial rfl ?_ | refine al_v (opx_move (.tup _)) ⟨rfl, trivial⟩ trivial rfl ?_)) | (refine is_bin ?_; refine al_v opx_neq ⟨rfl, rfl, trivial⟩ trivial rfl ?_) | (refine is_load ?_; refine al_v opx_ld_imm ⟨rfl, trivial⟩ trivial rfl ?_) | (refine is_assign ?_; (first | refine al_v (opx_assign (.raw _)) ⟨rfl, trivial⟩ trivial rfl ?_ | refine al_v (opx_assign (.sl _ _)) ⟨rfl, trivial⟩ trivial rfl ?_ | refine al_v (opx_assign (.own _)) ⟨rfl, trivial⟩ trivial rfl ?_)) | (refine is_pick ?_; (first | refine al_v (opx_pick_t (.raw _) rfl) ⟨rfl, rfl, trivial⟩ trivial rfl ?_ | refine al_v (opx_pick_f (.raw _) rfl) ⟨rfl, rfl, trivial⟩ trivial rfl ?_)) | (refine is_bi ?_; refine al_v opx_len_sl ⟨rfl, trivial⟩ trivial rfl ?_) | (refine is_ia ?_; (first | refine al_v (opx_ia_sl2 i0 (by omega)) ⟨rfl, rfl, trivial⟩ trivial rfl ?_ | refine al_v (opx_ia_sl2 i1 (by omega)) ⟨rfl, rfl, trivial⟩ trivial rfl ?_ | refine al_v (opx_ia_sl2 i2 (by omega)) ⟨rfl, rfl, trivial⟩ trivial rfl ?_)) | (refine is_call ?_; (first | refine al_callF (by (repeat (first | exact .nil | refine .one rfl rfl ?_ | refine .froz rfl rfl ?_ | refine .rnil rfl ?_ | refine .agg rfl (by (repeat (first | exact .nil | refine .cons (.same rfl) ?_ | refine .cons (.froz rfl) ?_ | refine .cons (.rnil) ?_)); (first | done | fail)) ?_)); (first | done | fail)) rfl (hcs) rfl ?_ | refine al_callrv2 (by (repeat (first | exact .nil | refine .one rfl rfl ?_ | refine .froz rfl rfl ?_ | refine .rnil rfl ?_ | refine .agg rfl (by (repeat (first | exact .nil | refine .cons (.same rfl) ?_ | refine .cons (.froz rfl) ?_ | refine .cons (.rnil) ?_)); (first | done | fail)) ?_)); (first | done | fail)) rfl (c1) ?_ | refine al_callv2 (by (repeat (first | exact .nil | refine .one rfl rfl ?_ | refine .froz rfl rfl ?_ | refine .row rfl rfl ?_ | refine .rnil rfl ?_ | refine .agg rfl (by (repeat (first | exact .nil | refine .cons (.same rfl) ?_ | refine .cons (.froz rfl) ?_ | refine .cons (.rnil) ?_ | refine .cons (.row rfl rfl) ?_)); (first | done | fail)) ?_)); (first | done | fail)) rfl (c2) rfl ?_ | refine al_callv2 (by (repeat (first | exact .nil | refine .one rfl rfl ?_ | refine .froz rfl rfl ?_ | refine .row rfl rfl ?_ | refine .rnil rfl ?_ | refine .agg rfl (by (repeat (first | exact .nil | refine .cons (.same rfl) ?_ | refine .cons (.froz rfl) ?_ | refine .cons (.rnil) ?_ | refine .cons (.row rfl rfl) ?_)); (first | done | fail)) ?_)); (first | done | fail)) rfl (c3) rfl ?_)) | (refine is_st ?_; refine al_s (opx_sts_box (by rfl) (by rfl)) ⟨rfl, rfl, trivial⟩ ⟨rfl, trivial⟩ ?_) | refine al_v opx_not ⟨rfl, trivial⟩ trivial rfl ?_ | refine al_v (opx_extract _ rfl) ⟨rfl, trivial⟩ trivial rfl ?_ | refine al_v (opx_build2 (res := [_, _]) rfl) ⟨rfl, rfl, trivial⟩ trivial rfl ?_ | refine al_n opx_alloc trivial trivial rfl ?_ | refine al_nil ?_ | refine al_v opx_build0 trivial trivial rfl ?_)) | (refine is_ad ?_; refine al_v opx_build0 trivial trivial rfl ?_) | (refine is_aw ?_; (first | refine aw_seq ?_ | refine aw_region ?_ | refine aw_skip ?_ | (refine is_cond ?_; (first | refine aw_cond_t rfl rfl ?_ | refine aw_cond_f rfl rfl ?_)))) | refine thn_n ?_)
        refine aw_le (le_ownNil 2 2 52 rfl) ?_
        repeat' (first | (refine is_aw ?_; refine aw_ret ?_) | refine thn_r ?_)
        exact ret_row_cell_raw trivial rfl rfl rfl rfl (by kernel_rfl) rfl rfl rfl ⟨by rw [f1, f2]; rfl, by rw [f2]; rfl⟩
      | true =>
        cases g3 : numB c with
        | false =>
          obtain ⟨f1, f2⟩ := pl_f e (by rw [plW, g1, g2, g3]; rfl)
          rw [g1] at c1
          rw [g2] at c2
          rw [g3] at c3
          refine con_of_aw (vars := [.tmp 2, .cell 3 29, .tmp 4]) [(0, .r (rStr s))] [] 0 Tryd.func18 (by kernel_rfl) rfl Tryd.ntmps18 rfl (by decide) rfl rfl rfl rfl rfl ?_; intro B M w0 ρ0 Z0
          repeat' (first | (refine is_al ?_; (first | (refine is_gd ?_; (first | refine al_on rfl rfl rfl (by assumption) ?_ | refine al_off rfl rfl rfl (by assumption) rfl ?_)) | (refine is_move ?_; (first | refine al_v (opx_move (.raw _)) ⟨rfl, trivial⟩ trivial rfl ?_ | refine al_v (opx_move (.sl _ _)) ⟨rfl, trivial⟩ trivial rfl ?_ | refine al_v (opx_move (.tup _)) ⟨rfl, trivial⟩ trivial rfl ?_)) | (refine is_bin ?_; refine al_v opx_neq ⟨rfl, rfl, trivial⟩ trivial rfl ?_) | (refine is_load ?_; refine al_v opx_ld_imm ⟨rfl, trivial⟩ trivial rfl ?_) | (refine is_assign ?_; (first | refine al_v (opx_assign (.raw _)) ⟨rfl, trivial⟩ trivial rfl ?_ | refine al_v (opx_assign (.sl _ _)) ⟨rfl, trivial⟩ trivial rfl ?_ | refine al_v (opx_assign (.own _)) ⟨rfl, trivial⟩ trivial rfl ?_)) | (refine is_pick ?_; (first | refine al_v (opx_pick_t (.raw _) rfl) ⟨rfl, rfl, trivial⟩ trivial rfl ?_ | refine al_v (opx_pick_f (.raw _) rfl) ⟨rfl, rfl, trivial⟩ trivial rfl ?_)) | (refine is_bi ?_; refine al_v opx_len_sl ⟨rfl, trivial⟩ trivial rfl ?_) | (refine is_ia ?_; (first | refine al_v (opx_ia_sl2 i0 (by omega)) ⟨rfl, rfl, trivial⟩ trivial rfl ?_ | refine al_v (opx_ia_sl2 i1 (by omega)) ⟨rfl, rfl, trivial⟩ trivial rfl ?_ | refine al_v (opx_ia_sl2 i2 (by omega)) ⟨rfl, rfl, trivial⟩ trivial rfl ?_)) | (refine is_call ?_; (first | refine al_callF (by (repeat (first | exact .nil | refine .one rfl rfl ?_ | refine .froz rfl rfl ?_ | refine .rnil rfl ?_ | refine .agg rfl (by (repeat (first | exact .nil | refine .cons (.same rfl) ?_ | refine .cons (.froz rfl) ?_ | refine .cons (.rnil) ?_)); (first | done | fail)) ?_)); (first | done | fail)) rfl (hcs) rfl ?_ | refine al_callrv2 (by (repeat (first | exact .nil | refine .one rfl rfl ?_ | refine .froz rfl rfl ?_ | refine .rnil rfl ?_ | refine .agg rfl (by (repeat (first | exact .nil | refine .cons (.same rfl) ?_ | refine .cons (.froz rfl) ?_ | refine .cons (.rnil) ?_)); (first | done | fail)) ?_)); (first | done | fail)) rfl (c1) ?_ | refine al_callv2 (by (repeat (first | exact .nil | refine .one rfl rfl ?_ | refine .froz rfl rfl ?_ | refine .row rfl rfl ?_ | refine .rnil rfl ?_ | refine .agg rfl (by (repeat (first | exact .nil | refine .cons (.same rfl) ?_ | refine .cons (.froz rfl) ?_ | refine .cons (.rnil) ?_ | refine .cons (.row rfl rfl) ?_)); (first | done | fail)) ?_)); (first | done | fail)) rfl (c2) rfl ?_ | refine al_callv2 (by (repeat (first | exact .nil | refine .one rfl rfl ?_ | refine .froz rfl rfl ?_ | refine .row rfl rfl ?_ | refine .rnil rfl ?_ | refine .agg rfl (by (repeat (first | exact .nil | refine .cons (.same rfl) ?_ | refine .cons (.froz rfl) ?_ | refine .cons (.rnil) ?_ | refine .cons (.row rfl rfl) ?_)); (first | done | fail)) ?_)); (first | done | fail)) rfl (c3) rfl ?_)) | (refine is_st ?_; refine al_s (opx_sts_box (by rfl) (by rfl)) ⟨rfl, rfl, trivial⟩ ⟨rfl, trivial⟩ ?_) | refine al_v opx_not ⟨rfl, trivial⟩ trivial rfl ?_ | refine al_v (opx_extract _ rfl) ⟨rfl, trivial⟩ trivial rfl ?_ | refine al_v (opx_build2 (res := [_, _]) rfl) ⟨rfl, rfl, trivial⟩ trivial rfl ?_ | refine al_n opx_alloc trivial trivial rfl ?_ | refine al_nil ?_ | refine al_v opx_build0 trivial trivial rfl ?_)) | (refine is_ad ?_; refine al_v opx_build0 trivial trivial rfl ?_) | (refine is_aw ?_; (first | refine aw_seq ?_ | refine aw_region ?_ | refine aw_skip ?_ | (refine is_cond ?_; (first | refine aw_cond_t rfl rfl ?_ | refine aw_cond_f rfl rfl ?_)))) | refine thn_n ?_)
          refine aw_le (le_ownNil 2 2 52 rfl) ?_
          repeat' (first | (refine is_aw ?_; refine aw_ret ?_) | refine thn_r ?_)
          exact ret_row_cell_raw trivial rfl rfl rfl rfl (by kernel_rfl) rfl rfl rfl ⟨by rw [f1, f2]; rfl, by rw [f2]; rfl⟩
        | true =>
          cases g4 : ptB (numN c) (numN b) with
          | false =>
            obtain ⟨f1, f2⟩ := pl_f e (by rw [plW, g1, g2, g3, g4]; rfl)
            rw [g1] at c1
            rw [g2] at c2
            rw [g3] at c3
            rw [g4] at c4
            refine con_of_aw (vars := [.tmp 2, .cell 3 29, .tmp 4]) [(0, .r (rStr s))] [] 0 Tryd.func18 (by kernel_rfl) rfl Tryd.ntmps18 rfl (by decide) rfl rfl rfl rfl rfl ?_; intro B M w0 ρ0 Z0
            repeat' (first | (refine is_al ?_; (first | (refine is_gd ?_; refine al_on rfl rfl rfl (by assumption) ?_) | (refine is_move ?_; (first | refine al_v (opx_move (.raw _)) ⟨rfl, trivial⟩ trivial rfl ?_ | refine al_v (opx_move (.sl _ _)) ⟨rfl, trivial⟩ trivial rfl ?_ | refine al_v (opx_move (.tup _)) ⟨rfl, trivial⟩ trivial rfl ?_)) | (refine is_bin ?_; refine al_v opx_neq ⟨rfl, rfl, trivial⟩ trivial rfl ?_) | (refine is_load ?_; (first | refine al_v opx_ld_imm ⟨rfl, trivial⟩ trivial rfl ?_ | refine al_v opx_ld2_box ⟨rfl, trivial⟩ ⟨rfl, trivial⟩ rfl ?_)) | (refine is_assign ?_; (first | refine al_v (opx_assign (.raw _)) ⟨rfl, trivial⟩ trivial rfl ?_ | refine al_v (opx_assign (.sl _ _)) ⟨rfl, trivial⟩ trivial rfl ?_ | refine al_v (opx_assign (.own _)) ⟨rfl, trivial⟩ trivial rfl ?_)) | (refine is_pick ?_; refine al_v (opx_pick_f (.raw _) rfl) ⟨rfl, rfl, trivial⟩ trivial rfl ?_) | (refine is_bi ?_; refine al_v opx_len_sl ⟨rfl, trivial⟩ trivial rfl ?_) | (refine is_ia ?_; (first | refine al_v (opx_ia_sl2 i0 (by omega)) ⟨rfl, rfl, trivial⟩ trivial rfl ?_ | refine al_v (opx_ia_sl2 i1 (by omega)) ⟨rfl, rfl, trivial⟩ trivial rfl ?_ | refine al_v (opx_ia_sl2 i2 (by omega)) ⟨rfl, rfl, trivial⟩ trivial rfl ?_)) | (refine is_call ?_; (first | refine al_callF (by (repeat (first | exact .nil | refine .one rfl rfl ?_ | refine .froz rfl rfl ?_ | refine .rnil rfl ?_ | refine .agg rfl (by (repeat (first | exact .nil | refine .cons (.same rfl) ?_ | refine .cons (.froz rfl) ?_ | refine .cons (.rnil) ?_)); (first | done | fail)) ?_)); (first | done | fail)) rfl (hcs) rfl ?_ | refine al_callrv2 (by (repeat (first | exact .nil | refine .one rfl rfl ?_ | refine .froz rfl rfl ?_ | refine .rnil rfl ?_ | refine .agg rfl (by (repeat (first | exact .nil | refine .cons (.same rfl) ?_ | refine .cons (.froz rfl) ?_ | refine .cons (.rnil) ?_)); (first | done | fail)) ?_)); (first | done | fail)) rfl (c1) ?_ | refine al_callv2 (by (repeat (first | exact .nil | refine .one rfl rfl ?_ | refine .froz rfl rfl ?_ | refine .row rfl rfl ?_ | refine .rnil rfl ?_ | refine .agg rfl (by (repeat (first | exact .nil | refine .cons (.same rfl) ?_ | refine .cons (.froz rfl) ?_ | refine .cons (.rnil) ?_ | refine .cons (.row rfl rfl) ?_)); (first | done | fail)) ?_)); (first | done | fail)) rfl (c2) rfl ?_ | refine al_callv2 (by (repeat (first | exact .nil | refine .one rfl rfl ?_ | refine .froz rfl rfl ?_ | refine .row rfl rfl ?_ | refine .rnil rfl ?_ | refine .agg rfl (by (repeat (first | exact .nil | refine .cons (.same rfl) ?_ | refine .cons (.froz rfl) ?_ | refine .cons (.rnil) ?_ | refine .cons (.row rfl rfl) ?_)); (first | done | fail)) ?_)); (first | done | fail)) rfl (c3) rfl ?_ | refine al_callv2 (by (repeat (first | exact .nil | refine .one rfl rfl ?_ | refine .froz rfl rfl ?_ | refine .row rfl rfl ?_ | refine .rnil rfl ?_ | refine .agg rfl (by (repeat (first | exact .nil | refine .cons (.same rfl) ?_ | refine .cons (.froz rfl) ?_ | refine .cons (.rnil) ?_ | refine .cons (.row rfl rfl) ?_)); (first | done | fail)) ?_)); (first | done | fail)) rfl (c4) rfl ?_)) | (refine is_st ?_; refine al_s (opx_sts_box (by rfl) (by rfl)) ⟨rfl, rfl, trivial⟩ ⟨rfl, trivial⟩ ?_) | refine al_v opx_not ⟨rfl, trivial⟩ trivial rfl ?_ | refine al_v (opx_extract _ rfl) ⟨rfl, trivial⟩ trivial rfl ?_ | refine al_v (opx_build2 (res := [_, _]) rfl) ⟨rfl, rfl, trivial⟩ trivial rfl ?_ | refine al_n opx_alloc trivial trivial rfl ?_ | refine al_nil ?_ | refine al_v opx_build0 trivial trivial rfl ?_)) | (refine is_ad ?_; refine al_v opx_build0 trivial trivial rfl ?_) | (refine is_aw ?_; (first | refine aw_seq ?_ | refine aw_region ?_ | refine aw_skip ?_ | (refine is_cond ?_; (first | refine aw_cond_t rfl rfl ?_ | refine aw_cond_f rfl rfl ?_)))) | refine thn_n ?_)
            refine aw_le (le_ownNil 2 2 52 rfl) ?_
            repeat' (first | (refine is_aw ?_; refine aw_ret ?_) | refine thn_r ?_)
            exact ret_row_cell_raw trivial rfl rfl rfl rfl (by kernel_rfl) rfl rfl rfl ⟨by rw [f1, f2]; rfl, by rw [f2]; rfl⟩
          | true =>
            obtain ⟨f1, f2⟩ := pl_t e (by rw [plW, g1, g2, g3, g4]; rfl)
            rw [g1] at c1
            rw [g2] at c2
            rw [g3] at c3
            rw [g4] at c4
            refine con_of_aw (vars := [.tmp 2, .cell 3 29, .tmp 4]) [(0, .r (rStr s))] [] 0 Tryd.func18 (by kernel_rfl) rfl Tryd.ntmps18 rfl (by decide) rfl rfl rfl rfl rfl ?_; intro B M w0 ρ0 Z0
            repeat' (first | (refine is_al ?_; (first | (refine is_gd ?_; refine al_on rfl rfl rfl (by assumption) ?_) | (refine is_move ?_; (first | refine al_v (opx_move (.raw _)) ⟨rfl, trivial⟩ trivial rfl ?_ | refine al_v (opx_move (.sl _ _)) ⟨rfl, trivial⟩ trivial rfl ?_ | refine al_v (opx_move (.tup _)) ⟨rfl, trivial⟩ trivial rfl ?_)) | (refine is_bin ?_; refine al_v opx_neq ⟨rfl, rfl, trivial⟩ trivial rfl ?_) | (refine is_load ?_; (first | refine al_v opx_ld_imm ⟨rfl, trivial⟩ trivial rfl ?_ | refine al_v opx_ld2_box ⟨rfl, trivial⟩ ⟨rfl, trivial⟩ rfl ?_)) | (refine is_assign ?_; (first | refine al_v (opx_assign (.raw _)) ⟨rfl, trivial⟩ trivial rfl ?_ | refine al_v (opx_assign (.sl _ _)) ⟨rfl, trivial⟩ trivial rfl ?_ | refine al_v (opx_assign (.own _)) ⟨rfl, trivial⟩ trivial rfl ?_)) | (refine is_pick ?_; refine al_v (opx_pick_f (.raw _) rfl) ⟨rfl, rfl, trivial⟩ trivial rfl ?_) | (refine is_bi ?_; refine al_v opx_len_sl ⟨rfl, trivial⟩ trivial rfl ?_) | (refine is_ia ?_; (first | refine al_v (opx_ia_sl2 i0 (by omega)) ⟨rfl, rfl, trivial⟩ trivial rfl ?_ | refine al_v (opx_ia_sl2 i1 (by omega)) ⟨rfl, rfl, trivial⟩ trivial rfl ?_ | refine al_v (opx_ia_sl2 i2 (by omega)) ⟨rfl, rfl, trivial⟩ trivial rfl ?_)) | (refine is_call ?_; (first | refine al_callF (by (repeat (first | exact .nil | refine .one rfl rfl ?_ | refine .froz rfl rfl ?_ | refine .rnil rfl ?_ | refine .agg rfl (by (repeat (first | exact .nil | refine .cons (.same rfl) ?_ | refine .cons (.froz rfl) ?_ | refine .cons (.rnil) ?_)); (first | done | fail)) ?_)); (first | done | fail)) rfl (hcs) rfl ?_ | refine al_callrv2 (by (repeat (first | exact .nil | refine .one rfl rfl ?_ | refine .froz rfl rfl ?_ | refine .rnil rfl ?_ | refine .agg rfl (by (repeat (first | exact .nil | refine .cons (.same rfl) ?_ | refine .cons (.froz rfl) ?_ | refine .cons (.rnil) ?_)); (first | done | fail)) ?_)); (first | done | fail)) rfl (c1) ?_ | refine al_callv2 (by (repeat (first | exact .nil | refine .one rfl rfl ?_ | refine .froz rfl rfl ?_ | refine .row rfl rfl ?_ | refine .rnil rfl ?_ | refine .agg rfl (by (repeat (first | exact .nil | refine .cons (.same rfl) ?_ | refine .cons (.froz rfl) ?_ | refine .cons (.rnil) ?_ | refine .cons (.row rfl rfl) ?_)); (first | done | fail)) ?_)); (first | done | fail)) rfl (c2) rfl ?_ | refine al_callv2 (by (repeat (first | exact .nil | refine .one rfl rfl ?_ | refine .froz rfl rfl ?_ | refine .row rfl rfl ?_ | refine .rnil rfl ?_ | refine .agg rfl (by (repeat (first | exact .nil | refine .cons (.same rfl) ?_ | refine .cons (.froz rfl) ?_ | refine .cons (.rnil) ?_ | refine .cons (.row rfl rfl) ?_)); (first | done | fail)) ?_)); (first | done | fail)) rfl (c3) rfl ?_ | refine al_callv2 (by (repeat (first | exact .nil | refine .one rfl rfl ?_ | refine .froz rfl rfl ?_ | refine .row rfl rfl ?_ | refine .rnil rfl ?_ | refine .agg rfl (by (repeat (first | exact .nil | refine .cons (.same rfl) ?_ | refine .cons (.froz rfl) ?_ | refine .cons (.rnil) ?_ | refine .cons (.row rfl rfl) ?_)); (first | done | fail)) ?_)); (first | done | fail)) rfl (c4) rfl ?_)) | (refine is_st ?_; refine al_s (opx_sts_box (by rfl) (by rfl)) ⟨rfl, rfl, trivial⟩ ⟨rfl, trivial⟩ ?_) | refine al_v opx_not ⟨rfl, trivial⟩ trivial rfl ?_ | refine al_v (opx_extract _ rfl) ⟨rfl, trivial⟩ trivial rfl ?_ | refine al_v (opx_build2 (res := [_, _]) rfl) ⟨rfl, rfl, trivial⟩ trivial rfl ?_ | refine al_n opx_alloc trivial trivial rfl ?_ | refine al_nil ?_)) | (refine is_ad ?_; (first | (refine isd_move ?_; refine ad_v (opx_move (.own _)) ⟨rfl, trivial⟩ trivial rfl ?_) | (refine isd_load ?_; refine ad_v opx_ld2_box ⟨rfl, trivial⟩ ⟨rfl, trivial⟩ rfl ?_) | (refine isd_assign ?_; (first | refine ad_v (opx_assign (.raw _)) ⟨rfl, trivial⟩ trivial rfl ?_ | refine ad_v (opx_assign (.own _)) ⟨rfl, trivial⟩ trivial rfl ?_)) | (refine isd_st ?_; refine ad_s (opx_sts_box (by rfl) (by rfl)) ⟨rfl, rfl, trivial⟩ ⟨rfl, trivial⟩ ?_) | refine ad_nil (by kernel_rfl) ?_)) | (refine is_aw ?_; (first | refine aw_seq ?_ | refine aw_region ?_ | refine aw_skip ?_ | refine aw_ret ?_ | (refine is_cond ?_; refine aw_cond_f rfl rfl ?_) | refine aw_draw mixed ?_)))
            exact ret_row_cell_raw trivial rfl rfl rfl rfl (by kernel_rfl) rfl rfl rfl ⟨by rw [f1, f2]; rfl, by rw [f2]⟩
  · obtain ⟨f1, f2⟩ := pl_none (pl_other h3)
    have d3 : (!decide (((stRs (spl 32 s)).length : Int) = 3)) = true := by rw [decide_eq_false (by omega)]; rfl
    refine con_of_aw (vars := [.tmp 2, .cell 3 29, .tmp 4]) [(0, .r (rStr s))] [] 0 Tryd.func18 (by kernel_rfl) rfl Tryd.ntmps18 rfl (by decide) rfl rfl rfl rfl rfl ?_; intro B M w0 ρ0 Z0
    repeat' (first | (refine is_al ?_; (first | (refine is_move ?_; (first | refine al_v (opx_move (.raw _)) ⟨rfl, trivial⟩ trivial rfl ?_ | refine al_v (opx_move (.sl _ _)) ⟨rfl, trivial⟩ trivial rfl ?_)) | (refine is_bin ?_; refine al_v opx_neq ⟨rfl, rfl, trivial⟩ trivial rfl ?_) | (refine is_assign ?_; (first | refine al_v (opx_assign (.raw _)) ⟨rfl, trivial⟩ trivial rfl ?_ | refine al_v (opx_assign (.sl _ _)) ⟨rfl, trivial⟩ trivial rfl ?_)) | (refine is_bi ?_; refine al_v opx_len_sl ⟨rfl, trivial⟩ trivial rfl ?_) | (refine is_call ?_; refine al_callF (by (repeat (first | exact .nil | refine .one rfl rfl ?_ | refine .froz rfl rfl ?_ | refine .rnil rfl ?_ | refine .agg rfl (by (repeat (first | exact .nil | refine .cons (.same rfl) ?_ | refine .cons (.froz rfl) ?_ | refine .cons (.rnil) ?_)); (first | done | fail)) ?_)); (first | done | fail)) rfl (hcs) rfl ?_) | (refine is_st ?_; refine al_s (opx_sts_box (by rfl) (by rfl)) ⟨rfl, rfl, trivial⟩ ⟨rfl, trivial⟩ ?_) | refine al_n opx_alloc trivial trivial rfl ?_ | refine al_nil ?_ | refine al_v opx_build0 trivial trivial rfl ?_)) | (refine is_ad ?_; refine al_v opx_build0 trivial trivial rfl ?_) | (refine is_aw ?_; (first | refine aw_seq ?_ | refine aw_region ?_ | (refine is_cond ?_; refine aw_cond_t rfl (by assumption) ?_))) | refine thn_n ?_)
    refine aw_le (le_ownNil 2 2 52 rfl) ?_
    repeat' (first | (refine is_aw ?_; refine aw_ret ?_) | refine thn_r ?_)
    exact ret_row_cell_raw trivial rfl rfl rfl rfl (by kernel_rfl) rfl rfl rfl ⟨by rw [f1, f2]; rfl, by rw [f2]; rfl⟩
theorem c_ParseLine' (s : Str) (hs : s.length ≤ 100000000) : Con Tryd.prog 18 [rStr s] [] (fun rs all => rs = [slL (plG s).1, ptA (plG s).2.1 (plG s).2.2, rB (plB s)] ∧ all = []) :=
  (c_ParseLine s hs).froz fun rs all ⟨h1, h2⟩ => by subst h1 h2; exact ⟨⟨rfl, rfl⟩, rfl⟩
theorem c_sParseLine (s : Str) (hs : s.length ≤ 100000000) : Con Tryd.prog 17 [rStr s] [] (PLs s) := by
  have n1 : (!true) = false := rfl
  have n2 : (!false) = true := rfl
  have hcs := c_splitAt' s 32 (by omega)
  have hl := stRs_len (xs := spl 32 s)
  by_cases h3 : (spl 32 s).length = 3
  · obtain ⟨a, b, c, e⟩ : ∃ a b c, spl 32 s = [a, b, c] := by
      match h : spl 32 s, h3 with
      | [a, b, c], _ => exact ⟨a, b, c, rfl⟩
    have ha := spl_leW (c := 32) (s := s) a (by rw [e]; simp)
    have hb := spl_leW (c := 32) (s := s) b (by rw [e]; simp)
    have hc := spl_leW (c := 32) (s := s) c (by rw [e]; simp)
    rw [e] at hcs
    clear hl
    have d3 : (!decide (((stRs [a, b, c]).length : Int) = 3)) = false := rfl
    have i0 : (stRs [a, b, c])[0]? = some (stR a) := rfl
    have i1 : (stRs [a, b, c])[1]? = some (stR b) := rfl
    have i2 : (stRs [a, b, c])[2]? = some (stR c) := rfl
    have c1 : Con Tryd.prog 40 [rStr a] [] (fun rs all => rs = [.one (.own 0), rB (prsB a)] ∧ all = [.row 2 52 (lbRs (prsL a))]) := c_sparse a (by omega)
    have c2 := c_parseInt b (by omega)
    have c3 := c_parseInt c (by omega)
    have c4 := c_sValidPoint (numN c) (numN b)
    have p4 : decide (0 ≤ numN c ∧ numN c ≤ 1000 ∧ -1000 ≤ numN b ∧ numN b ≤ 1000) = ptB (numN c) (numN b) := rfl
    rw [p4] at c4
    cases g1 : prsB a with
    | false =>
      obtain ⟨f1, f2⟩ := pl_f e (by rw [plW, g1]; rfl)
      rw [g1] at c1
      refine con_of_aw (vars := [.tmp 2, .cell 3 29, .tmp 4]) [(0, .r (rStr s))] [] 0 Tryd.func17 (by kernel_rfl) rfl Tryd.ntmps17 rfl (by decide) rfl rfl rfl rfl rfl ?_; intro B M w0 ρ0 Z0
      repeat' (first | (refine is_al ?_; (first | (refine is_gd ?_; refine al_off rfl rfl rfl (by assumption) rfl ?_) | (refine is_move ?_; (first | refine al_v (opx_move (.raw _)) ⟨rfl, trivial⟩ trivial rfl ?_ | refine al_v (opx_move (.sl _ _)) ⟨rfl, trivial⟩ trivial rfl ?_ | refine al_v (opx_move (.tup _)) ⟨rfl, trivial⟩ trivial rfl ?_)) | (refine is_bin ?_; refine al_v opx_neq ⟨rfl, rfl, trivial⟩ trivial rfl ?_) | (refine is_load ?_; refine al_v opx_ld_imm ⟨rfl, trivial⟩ trivial rfl ?_) | (refine is_assign ?_; (first | refine al_v (opx_assign (.raw _)) ⟨rfl, trivial⟩ trivial rfl ?_ | refine al_v (opx_assign (.sl _ _)) ⟨rfl, trivial⟩ trivial rfl ?_ | refine al_v (opx_assign (.own _)) ⟨rfl, trivial⟩ trivial rfl ?_)) | (refine is_pick ?_; refine al_v (opx_pick_t (.raw _) rfl) ⟨rfl, rfl, trivial⟩ trivial rfl ?_) | (refine is_bi ?_; refine al_v opx_len_sl ⟨rfl, trivial⟩ trivial rfl ?_) | (refine is_ia ?_; (first | refine al_v (opx_ia_sl2 i0 (by omega)) ⟨rfl, rfl, trivial⟩ trivial rfl ?_ | refine al_v (opx_ia_sl2 i1 (by omega)) ⟨rfl, rfl, trivial⟩ trivial rfl ?_ | refine al_v (opx_ia_sl2 i2 (by omega)) ⟨rfl, rfl, trivial⟩ trivial rfl ?_)) | (refine is_call ?_; (first | refine al_callF (by (repeat (first | exact .nil | refine .one rfl rfl ?_ | refine .froz rfl rfl ?_ | refine .rnil rfl ?_ | refine .agg rfl (by (repeat (first | exact .nil | refine .cons (.same rfl) ?_ | refine .cons (.froz rfl) ?_ | refine .cons (.rnil) ?_)); (first | done | fail)) ?_)); (first | done | fail)) rfl (hcs) rfl ?_ | refine al_callrv2 (by (repeat (first | exact .nil | refine .one rfl rfl ?_ | refine .froz rfl rfl ?_ | refine .rnil rfl ?_ | refine .agg rfl (by (repeat (first | exact .nil | refine .cons (.same rfl) ?_ | refine .cons (.froz rfl) ?_ | refine .cons (.rnil) ?_)); (first | done | fail)) ?_)); (first | done | fail)) rfl (c1) ?_ | refine al_callv2 (by (repeat (first | exact .nil | refine .one rfl rfl ?_ | refine .froz rfl rfl ?_ | refine .row rfl rfl ?_ | refine .rnil rfl ?_ | refine .agg rfl (by (repeat (first | exact .nil | refine .cons (.same rfl) ?_ | refine .cons (.froz rfl) ?_ | refine .cons (.rnil) ?_ | refine .cons (.row rfl rfl) ?_)); (first | done | fail)) ?_)); (first | done | fail)) rfl (c2) rfl ?_ | refine al_callv2 (by (repeat (first | exact .nil | refine .one rfl rfl ?_ | refine .froz rfl rfl ?_ | refine .row rfl rfl ?_ | refine .rnil rfl ?_ | refine .agg rfl (by (repeat (first | exact .nil | refine .cons (.same rfl) ?_ | refine .cons (.froz rfl) ?_ | refine .cons (.rnil) ?_ | refine .cons (.row rfl rfl) ?_)); (first | done | fail)) ?_)); (first | done | fail)) rfl (c3) rfl ?_)) | (refine is_st ?_; refine al_s (opx_sts_box (by rfl) (by rfl)) ⟨rfl, rfl, trivial⟩ ⟨rfl, trivial⟩ ?_) | refine al_v opx_not ⟨rfl, trivial⟩ trivial rfl ?_ | refine al_v (opx_extract _ rfl) ⟨rfl, trivial⟩ trivial rfl ?_ | refine al_v (opx_build2 (res := [_, _]) rfl) ⟨rfl, rfl, trivial⟩ trivial rfl ?_ | refine al_n opx_alloc trivial trivial rfl ?_ | refine al_nil ?_ | refine al_v opx_build0 trivial trivial rfl ?_)) | (refine is_ad ?_; refine al_v opx_build0 trivial trivial rfl ?_) | (refine is_aw ?_; (first | refine aw_seq ?_ | refine aw_region ?_ | refine aw_skip ?_ | (refine is_cond ?_; (first | refine aw_cond_t rfl rfl ?_ | refine aw_cond_f rfl rfl ?_)))) | refine thn_n ?_)
      refine aw_le (le_ownNil 2 2 52 rfl) ?_
      repeat' (first | (refine is_aw ?_; refine aw_ret ?_) | refine thn_r ?_)
      exact ret_row_cell_raw trivial rfl rfl rfl rfl (by kernel_rfl) rfl rfl rfl ⟨by rw [f1, f2]; rfl, by rw [f2]; rfl⟩
    | true =>
      cases g2 : numB b with
      | false =>
        obtain ⟨f1, f2⟩ := pl_f e (by rw [plW, g1, g2]; rfl)
        rw [g1] at c1
        rw [g2] at c2
        refine con_of_aw (vars := [.tmp 2, .cell 3 29, .tmp 4]) [(0, .r (rStr s))] [] 0 Tryd.func17 (by kernel_rfl) rfl Tryd.ntmps17 rfl (by decide) rfl rfl rfl rfl rfl ?_; intro B M w0 ρ0 Z0
        repeat' (first | (refine is_al ?_; (first | (refine is_gd ?_; (first | refine al_on rfl rfl rfl (by assumption) ?_ | refine al_off rfl rfl rfl (by assumption) rfl ?_)) | (refine is_move ?_; (first | refine al_v (opx_move (.raw _)) ⟨rfl, trivial⟩ trivial rfl ?_ | refine al_v (opx_move (.sl _ _)) ⟨rfl, trivial⟩ trivial rfl ?_ | refine al_v (opx_move (.tup _)) ⟨rfl, trivial⟩ trivial rfl ?_)) | (refine is_bin ?_; refine al_v opx_neq ⟨rfl, rfl, trivial⟩ trivial rfl ?_) | (refine is_load ?_; refine al_v opx_ld_imm ⟨rfl, trivial⟩ trivial rfl ?_) | (refine is_assign ?_; (first | refine al_v (opx_assign (.raw _)) ⟨rfl, trivial⟩ trivial rfl ?_ | refine al_v (opx_assign (.sl _ _)) ⟨rfl, trivial⟩ trivial rfl ?_ | refine al_v (opx_assign (.own _)) ⟨rfl, trivial⟩ trivial rfl ?_)) | (refine is_pick ?_; (first | refine al_v (opx_pick_t (.raw _) rfl) ⟨rfl, rfl, trivial⟩ trivial rfl ?_ | refine al_v (opx_pick_f (.raw _) rfl) ⟨rfl, rfl, trivial⟩ trivial rfl ?_)) | (refine is_bi ?_; refine al_v opx_len_sl ⟨rfl, trivial⟩ trivial rfl ?_) | (refine is_ia ?_; (first | refine al_v (opx_ia_sl2 i0 (by omega)) ⟨rfl, rfl, trivial⟩ trivial rfl ?_ | refine al_v (opx_ia_sl2 i1 (by omega)) ⟨rfl, rfl, trivial⟩ trivial rfl ?_ | refine al_v (opx_ia_sl2 i2 (by omega)) ⟨rfl, rfl, trivial⟩ trivial rfl ?_)) | (refine is_call ?_; (first | refine al_callF (by (repeat (first | exact .nil | refine .one rfl rfl ?_ | refine .froz rfl rfl ?_ | refine .rnil rfl ?_ | refine .agg rfl (by (repeat (first | exact .nil | refine .cons (.same rfl) ?_ | refine .cons (.froz rfl) ?_ | refine .cons (.rnil) ?_)); (first | done | fail)) ?_)); (first | done | fail)) rfl (hcs) rfl ?_ | refine al_callrv2 (by (repeat (first | exact .nil | refine .one rfl rfl ?_ | refine .froz rfl rfl ?_ | refine .rnil rfl ?_ | refine .agg rfl (by (repeat (first | exact .nil | refine .cons (.same rfl) ?_ | refine .cons (.froz rfl) ?_ | refine .cons (.rnil) ?_)); (first | done | fail)) ?_)); (first | done | fail)) rfl (c1) ?_ | refine al_callv2 (by (repeat (first | exact .nil | refine .one rfl rfl ?_ | refine .froz rfl rfl ?_ | refine .row rfl rfl ?_ | refine .rnil rfl ?_ | refine .agg rfl (by (repeat (first | exact .nil | refine .cons (.same rfl) ?_ | refine .cons (.froz rfl) ?_ | refine .cons (.rnil) ?_ | refine .cons (.row rfl rfl) ?_)); (first | done | fail)) ?_)); (first | done | fail)) rfl (c2) rfl ?_ | refine al_callv2 (by (repeat (first | exact .nil | refine .one rfl rfl ?_ | refine .froz rfl rfl ?_ | refine .row rfl rfl ?_ | refine .rnil rfl ?_ | refine .agg rfl (by (repeat (first | exact .nil | refine .cons (.same rfl) ?_ | refine .cons (.froz rfl) ?_ | refine .cons (.rnil) ?_ | refine .cons (.row rfl rfl) ?_)); (first | done | fail)) ?_)); (first | done | fail)) rfl (c3) rfl ?_)) | (refine is_st ?_; refine al_s (opx_sts_box (by rfl) (by rfl)) ⟨rfl, rfl, trivial⟩ ⟨rfl, trivial⟩ ?_) | refine al_v opx_not ⟨rfl, trivial⟩ trivial rfl ?_ | refine al_v (opx_extract _ rfl) ⟨rfl, trivial⟩ trivial rfl ?_ | refine al_v (opx_build2 (res := [_, _]) rfl) ⟨rfl, rfl, trivial⟩ trivial rfl ?_ | refine al_n opx_alloc trivial trivial rfl ?_ | refine al_nil ?_ | refine al_v opx_build0 trivial trivial rfl ?_)) | (refine is_ad ?_; refine al_v opx_build0 trivial trivial rfl ?_) | (refine is_aw ?_; (first | refine aw_seq ?_ | refine aw_region ?_ | refine aw_skip ?_ | (refine is_cond ?_; (first | refine aw_cond_t rfl rfl ?_ | refine aw_cond_f rfl rfl ?_)))) | refine thn_n ?_)
        refine aw_le (le_ownNil 2 2 52 rfl) ?_
        repeat' (first | (refine is_aw ?_; refine aw_ret ?_) | refine thn_r ?_)
        exact ret_row_cell_raw trivial rfl rfl rfl rfl (by kernel_rfl) rfl rfl rfl ⟨by rw [f1, f2]; rfl, by rw [f2]; rfl⟩
      | true =>
        cases g3 : numB c with
        | false =>
          obtain ⟨f1, f2⟩ := pl_f e (by rw [plW, g1, g2, g3]; rfl)
          rw [g1] at c1
          rw [g2] at c2
          rw [g3] at c3
          refine con_of_aw (vars := [.tmp 2, .cell 3 29, .tmp 4]) [(0, .r (rStr s))] [] 0 Tryd.func17 (by kernel_rfl) rfl Tryd.ntmps17 rfl (by decide) rfl rfl rfl rfl rfl ?_; intro B M w0 ρ0 Z0
          repeat' (first | (refine is_al ?_; (first | (refine is_gd ?_; (first | refine al_on rfl rfl rfl (by assumption) ?_ | refine al_off rfl rfl rfl (by assumption) rfl ?_)) | (refine is_move ?_; (first | refine al_v (opx_move (.raw _)) ⟨rfl, trivial⟩ trivial rfl ?_ | refine al_v (opx_move (.sl _ _)) ⟨rfl, trivial⟩ trivial rfl ?_ | refine al_v (opx_move (.tup _)) ⟨rfl, trivial⟩ trivial rfl ?_)) | (refine is_bin ?_; refine al_v opx_neq ⟨rfl, rfl, trivial⟩ trivial rfl ?_) | (refine is_load ?_; refine al_v opx_ld_imm ⟨rfl, trivial⟩ trivial rfl ?_) | (refine is_assign ?_; (first | refine al_v (opx_assign (.raw _)) ⟨rfl, trivial⟩ trivial rfl ?_ | refine al_v (opx_assign (.sl _ _)) ⟨rfl, trivial⟩ trivial rfl ?_ | refine al_v (opx_assign (.own _)) ⟨rfl, trivial⟩ trivial rfl ?_)) | (refine is_pick ?_; (first | refine al_v (opx_pick_t (.raw _) rfl) ⟨rfl, rfl, trivial⟩ trivial rfl ?_ | refine al_v (opx_pick_f (.raw _) rfl) ⟨rfl, rfl, trivial⟩ trivial rfl ?_)) | (refine is_bi ?_; refine al_v opx_len_sl ⟨rfl, trivial⟩ trivial rfl ?_) | (refine is_ia ?_; (first | refine al_v (opx_ia_sl2 i0 (by omega)) ⟨rfl, rfl, trivial⟩ trivial rfl ?_ | refine al_v (opx_ia_sl2 i1 (by omega)) ⟨rfl, rfl, trivial⟩ trivial rfl ?_ | refine al_v (opx_ia_sl2 i2 (by omega)) ⟨rfl, rfl, trivial⟩ trivial rfl ?_)) | (refine is_call ?_; (first | refine al_callF (by (repeat (first | exact .nil | refine .one rfl rfl ?_ | refine .froz rfl rfl ?_ | refine .rnil rfl ?_ | refine .agg rfl (by (repeat (first | exact .nil | refine .cons (.same rfl) ?_ | refine .cons (.froz rfl) ?_ | refine .cons (.rnil) ?_)); (first | done | fail)) ?_)); (first | done | fail)) rfl (hcs) rfl ?_ | refine al_callrv2 (by (repeat (first | exact .nil | refine .one rfl rfl ?_ | refine .froz rfl rfl ?_ | refine .rnil rfl ?_ | refine .agg rfl (by (repeat (first | exact .nil | refine .cons (.same rfl) ?_ | refine .cons (.froz rfl) ?_ | refine .cons (.rnil) ?_)); (first | done | fail)) ?_)); (first | done | fail)) rfl (c1) ?_ | refine al_callv2 (by (repeat (first | exact .nil | refine .one rfl rfl ?_ | refine .froz rfl rfl ?_ | refine .row rfl rfl ?_ | refine .rnil rfl ?_ | refine .agg rfl (by (repeat (first | exact .nil | refine .cons (.same rfl) ?_ | refine .cons (.froz rfl) ?_ | refine .cons (.rnil) ?_ | refine .cons (.row rfl rfl) ?_)); (first | done | fail)) ?_)); (first | done | fail)) rfl (c2) rfl ?_ | refine al_callv2 (by (repeat (first | exact .nil | refine .one rfl rfl ?_ | refine .froz rfl rfl ?_ | refine .row rfl rfl ?_ | refine .rnil rfl ?_ | refine .agg rfl (by (repeat (first | exact .nil | refine .cons (.same rfl) ?_ | refine .cons (.froz rfl) ?_ | refine .cons (.rnil) ?_ | refine .cons (.row rfl rfl) ?_)); (first | done | fail)) ?_)); (first | done | fail)) rfl (c3) rfl ?_)) | (refine is_st ?_; refine al_s (opx_sts_box (by rfl) (by rfl)) ⟨rfl, rfl, trivial⟩ ⟨rfl, trivial⟩ ?_) | refine al_v opx_not ⟨rfl, trivial⟩ trivial rfl ?_ | refine al_v (opx_extract _ rfl) ⟨rfl, trivial⟩ trivial rfl ?_ | refine al_v (opx_build2 (res := [_, _]) rfl) ⟨rfl, rfl, trivial⟩ trivial rfl ?_ | refine al_n opx_alloc trivial trivial rfl ?_ | refine al_nil ?_ | refine al_v opx_build0 trivial trivial rfl ?_)) | (refine is_ad ?_; refine al_v opx_build0 trivial trivial rfl ?_) | (refine is_aw ?_; (first | refine aw_seq ?_ | refine aw_region ?_ | refine aw_skip ?_ | (refine is_cond ?_; (first | refine aw_cond_t rfl rfl ?_ | refine aw_cond_f rfl rfl ?_)))) | refine thn_n ?_)
          refine aw_le (le_ownNil 2 2 52 rfl) ?_
          repeat' (first | (refine is_aw ?_; refine aw_ret ?_) | refine thn_r ?_)
          exact ret_row_cell_raw trivial rfl rfl rfl rfl (by kernel_rfl) rfl rfl rfl ⟨by rw [f1, f2]; rfl, by rw [f2]; rfl⟩
        | true =>
          cases g4 : ptB (numN c) (numN b) with
          | false =>
            obtain ⟨f1, f2⟩ := pl_f e (by rw [plW, g1, g2, g3, g4]; rfl)
            rw [g1] at c1
            rw [g2] at c2
            rw [g3] at c3
            rw [g4] at c4
            refine con_of_aw (vars := [.tmp 2, .cell 3 29, .tmp 4]) [(0, .r (rStr s))] [] 0 Tryd.func17 (by kernel_rfl) rfl Tryd.ntmps17 rfl (by decide) rfl rfl rfl rfl rfl ?_; intro B M w0 ρ0 Z0
            repeat' (first | (refine is_al ?_; (first | (refine is_gd ?_; refine al_on rfl rfl rfl (by assumption) ?_) | (refine is_move ?_; (first | refine al_v (opx_move (.raw _)) ⟨rfl, trivial⟩ trivial rfl ?_ | refine al_v (opx_move (.sl _ _)) ⟨rfl, trivial⟩ trivial rfl ?_ | refine al_v (opx_move (.tup _)) ⟨rfl, trivial⟩ trivial rfl ?_)) | (refine is_bin ?_; refine al_v opx_neq ⟨rfl, rfl, trivial⟩ trivial rfl ?_) | (refine is_load ?_; (first | refine al_v opx_ld_imm ⟨rfl, trivial⟩ trivial rfl ?_ | refine al_v opx_ld2_box ⟨rfl, trivial⟩ ⟨rfl, trivial⟩ rfl ?_)) | (refine is_assign ?_; (first | refine al_v (opx_assign (.raw _)) ⟨rfl, trivial⟩ trivial rfl ?_ | refine al_v (opx_assign (.sl _ _)) ⟨rfl, trivial⟩ trivial rfl ?_ | refine al_v (opx_assign (.own _)) ⟨rfl, trivial⟩ trivial rfl ?_)) | (refine is_pick ?_; refine al_v (opx_pick_f (.raw _) rfl) ⟨rfl, rfl, trivial⟩ trivial rfl ?_) | (refine is_bi ?_; refine al_v opx_len_sl ⟨rfl, trivial⟩ trivial rfl ?_) | (refine is_ia ?_; (first | refine al_v (opx_ia_sl2 i0 (by omega)) ⟨rfl, rfl, trivial⟩ trivial rfl ?_ | refine al_v (opx_ia_sl2 i1 (by omega)) ⟨rfl, rfl, trivial⟩ trivial rfl ?_ | refine al_v (opx_ia_sl2 i2 (by omega)) ⟨rfl, rfl, trivial⟩ trivial rfl ?_)) | (refine is_call ?_; (first | refine al_callF (by (repeat (first | exact .nil | refine .one rfl rfl ?_ | refine .froz rfl rfl ?_ | refine .rnil rfl ?_ | refine .agg rfl (by (repeat (first | exact .nil | refine .cons (.same rfl) ?_ | refine .cons (.froz rfl) ?_ | refine .cons (.rnil) ?_)); (first | done | fail)) ?_)); (first | done | fail)) rfl (hcs) rfl ?_ | refine al_callrv2 (by (repeat (first | exact .nil | refine .one rfl rfl ?_ | refine .froz rfl rfl ?_ | refine .rnil rfl ?_ | refine .agg rfl (by (repeat (first | exact .nil | refine .cons (.same rfl) ?_ | refine .cons (.froz rfl) ?_ | refine .cons (.rnil) ?_)); (first | done | fail)) ?_)); (first | done | fail)) rfl (c1) ?_ | refine al_callv2 (by (repeat (first | exact .nil | refine .one rfl rfl ?_ | refine .froz rfl rfl ?_ | refine .row rfl rfl ?_ | refine .rnil rfl ?_ | refine .agg rfl (by (repeat (first | exact .nil | refine .cons (.same rfl) ?_ | refine .cons (.froz rfl) ?_ | refine .cons (.rnil) ?_ | refine .cons (.row rfl rfl) ?_)); (first | done | fail)) ?_)); (first | done | fail)) rfl (c2) rfl ?_ | refine al_callv2 (by (repeat (first | exact .nil | refine .one rfl rfl ?_ | refine .froz rfl rfl ?_ | refine .row rfl rfl ?_ | refine .rnil rfl ?_ | refine .agg rfl (by (repeat (first | exact .nil | refine .cons (.same rfl) ?_ | refine .cons (.froz rfl) ?_ | refine .cons (.rnil) ?_ | refine .cons (.row rfl rfl) ?_)); (first | done | fail)) ?_)); (first | done | fail)) rfl (c3) rfl ?_ | refine al_callv2 (by (repeat (first | exact .nil | refine .one rfl rfl ?_ | refine .froz rfl rfl ?_ | refine .row rfl rfl ?_ | refine .rnil rfl ?_ | refine .agg rfl (by (repeat (first | exact .nil | refine .cons (.same rfl) ?_ | refine .cons (.froz rfl) ?_ | refine .cons (.rnil) ?_ | refine .cons (.row rfl rfl) ?_)); (first | done | fail)) ?_)); (first | done | fail)) rfl (c4) rfl ?_)) | (refine is_st ?_; refine al_s (opx_sts_box (by rfl) (by rfl)) ⟨rfl, rfl, trivial⟩ ⟨rfl, trivial⟩ ?_) | refine al_v opx_not ⟨rfl, trivial⟩ trivial rfl ?_ | refine al_v (opx_extract _ rfl) ⟨rfl, trivial⟩ trivial rfl ?_ | refine al_v (opx_build2 (res := [_, _]) rfl) ⟨rfl, rfl, trivial⟩ trivial rfl ?_ | refine al_n opx_alloc trivial trivial rfl ?_ | refine al_nil ?_ | refine al_v opx_build0 trivial trivial rfl ?_)) | (refine is_ad ?_; refine al_v opx_build0 trivial trivial rfl ?_) | (refine is_aw ?_; (first | refine aw_seq ?_ | refine aw_region ?_ | refine aw_skip ?_ | (refine is_cond ?_; (first | refine aw_cond_t rfl rfl ?_ | refine aw_cond_f rfl rfl ?_)))) | refine thn_n ?_)
            refine aw_le (le_ownNil 2 2 52 rfl) ?_
            repeat' (first | (refine is_aw ?_; refine aw_ret ?_) | refine thn_r ?_)
            exact ret_row_cell_raw trivial rfl rfl rfl rfl (by kernel_rfl) rfl rfl rfl ⟨by rw [f1, f2]; rfl, by rw [f2]; rfl⟩
          | true =>
            obtain ⟨f1, f2⟩ := pl_t e (by rw [plW, g1, g2, g3, g4]; rfl)
            rw [g1] at c1
            rw [g2] at c2
            rw [g3] at c3
            rw [g4] at c4
            refine con_of_aw (vars := [.tmp 2, .cell 3 29, .tmp 4]) [(0, .r (rStr s))] [] 0 Tryd.func17 (by kernel_rfl) rfl Tryd.ntmps17 rfl (by decide) rfl rfl rfl rfl rfl ?_; intro B M w0 ρ0 Z0
            repeat' (first | (refine is_al ?_; (first | (refine is_gd ?_; refine al_on rfl rfl rfl (by assumption) ?_) | (refine is_move ?_; (first | refine al_v (opx_move (.raw _)) ⟨rfl, trivial⟩ trivial rfl ?_ | refine al_v (opx_move (.sl _ _)) ⟨rfl, trivial⟩ trivial rfl ?_ | refine al_v (opx_move (.tup _)) ⟨rfl, trivial⟩ trivial rfl ?_)) | (refine is_bin ?_; refine al_v opx_neq ⟨rfl, rfl, trivial⟩ trivial rfl ?_) | (refine is_load ?_; (first | refine al_v opx_ld_imm ⟨rfl, trivial⟩ trivial rfl ?_ | refine al_v opx_ld2_box ⟨rfl, trivial⟩ ⟨rfl, trivial⟩ rfl ?_)) | (refine is_assign ?_; (first | refine al_v (opx_assign (.raw _)) ⟨rfl, trivial⟩ trivial rfl ?_ | refine al_v (opx_assign (.sl _ _)) ⟨rfl, trivial⟩ trivial rfl ?_ | refine al_v (opx_assign (.own _)) ⟨rfl, trivial⟩ trivial rfl ?_)) | (refine is_pick ?_; refine al_v (opx_pick_f (.raw _) rfl) ⟨rfl, rfl, trivial⟩ trivial rfl ?_) | (refine is_bi ?_; refine al_v opx_len_sl ⟨rfl, trivial⟩ trivial rfl ?_) | (refine is_ia ?_; (first | refine al_v (opx_ia_sl2 i0 (by omega)) ⟨rfl, rfl, trivial⟩ trivial rfl ?_ | refine al_v (opx_ia_sl2 i1 (by omega)) ⟨rfl, rfl, trivial⟩ trivial rfl ?_ | refine al_v (opx_ia_sl2 i2 (by omega)) ⟨rfl, rfl, trivial⟩ trivial rfl ?_)) | (refine is_call ?_; (first | refine al_callF (by (repeat (first | exact .nil | refine .one rfl rfl ?_ | refine .froz rfl rfl ?_ | refine .rnil rfl ?_ | refine .agg rfl (by (repeat (first | exact .nil | refine .cons (.same rfl) ?_ | refine .cons (.froz rfl) ?_ | refine .cons (.rnil) ?_)); (first | done | fail)) ?_)); (first | done | fail)) rfl (hcs) rfl ?_ | refine al_callrv2 (by (repeat (first | exact .nil | refine .one rfl rfl ?_ | refine .froz rfl rfl ?_ | refine .rnil rfl ?_ | refine .agg rfl (by (repeat (first | exact .nil | refine .cons (.same rfl) ?_ | refine .cons (.froz rfl) ?_ | refine .cons (.rnil) ?_)); (first | done | fail)) ?_)); (first | done | fail)) rfl (c1) ?_ | refine al_callv2 (by (repeat (first | exact .nil | refine .one rfl rfl ?_ | refine .froz rfl rfl ?_ | refine .row rfl rfl ?_ | refine .rnil rfl ?_ | refine .agg rfl (by (repeat (first | exact .nil | refine .cons (.same rfl) ?_ | refine .cons (.froz rfl) ?_ | refine .cons (.rnil) ?_ | refine .cons (.row rfl rfl) ?_)); (first | done | fail)) ?_)); (first | done | fail)) rfl (c2) rfl ?_ | refine al_callv2 (by (repeat (first | exact .nil | refine .one rfl rfl ?_ | refine .froz rfl rfl ?_ | refine .row rfl rfl ?_ | refine .rnil rfl ?_ | refine .agg rfl (by (repeat (first | exact .nil | refine .cons (.same rfl) ?_ | refine .cons (.froz rfl) ?_ | refine .cons (.rnil) ?_ | refine .cons (.row rfl rfl) ?_)); (first | done | fail)) ?_)); (first | done | fail)) rfl (c3) rfl ?_ | refine al_callv2 (by (repeat (first | exact .nil | refine .one rfl rfl ?_ | refine .froz rfl rfl ?_ | refine .row rfl rfl ?_ | refine .rnil rfl ?_ | refine .agg rfl (by (repeat (first | exact .nil | refine .cons (.same rfl) ?_ | refine .cons (.froz rfl) ?_ | refine .cons (.rnil) ?_ | refine .cons (.row rfl rfl) ?_)); (first | done | fail)) ?_)); (first | done | fail)) rfl (c4) rfl ?_)) | (refine is_st ?_; refine al_s (opx_sts_box (by rfl) (by rfl)) ⟨rfl, rfl, trivial⟩ ⟨rfl, trivial⟩ ?_) | refine al_v opx_not ⟨rfl, trivial⟩ trivial rfl ?_ | refine al_v (opx_extract _ rfl) ⟨rfl, trivial⟩ trivial rfl ?_ | refine al_v (opx_build2 (res := [_, _]) rfl) ⟨rfl, rfl, trivial⟩ trivial rfl ?_ | refine al_n opx_alloc trivial trivial rfl ?_ | refine al_nil ?_)) | (refine is_ad ?_; (first | (refine isd_move ?_; refine ad_v (opx_move (.own _)) ⟨rfl, trivial⟩ trivial rfl ?_) | (refine isd_load ?_; refine ad_v opx_ld2_box ⟨rfl, trivial⟩ ⟨rfl, trivial⟩ rfl ?_) | (refine isd_assign ?_; (first | refine ad_v (opx_assign (.raw _)) ⟨rfl, trivial⟩ trivial rfl ?_ | refine ad_v (opx_assign (.own _)) ⟨rfl, trivial⟩ trivial rfl ?_)) | (refine isd_st ?_; refine ad_s (opx_sts_box (by rfl) (by rfl)) ⟨rfl, rfl, trivial⟩ ⟨rfl, trivial⟩ ?_) | refine ad_nil (by kernel_rfl) ?_)) | (refine is_aw ?_; (first | refine aw_seq ?_ | refine aw_region ?_ | refine aw_skip ?_ | refine aw_ret ?_ | (refine is_cond ?_; refine aw_cond_f rfl rfl ?_) | refine aw_draw mixed ?_)))
            exact ret_row_cell_raw trivial rfl rfl rfl rfl (by kernel_rfl) rfl rfl rfl ⟨by rw [f1, f2]; rfl, by rw [f2]⟩
  · obtain ⟨f1, f2⟩ := pl_none (pl_other h3)
    have d3 : (!decide (((stRs (spl 32 s)).length : Int) = 3)) = true := by rw [decide_eq_false (by omega)]; rfl
    refine con_of_aw (vars := [.tmp 2, .cell 3 29, .tmp 4]) [(0, .r (rStr s))] [] 0 Tryd.func17 (by kernel_rfl) rfl Tryd.ntmps17 rfl (by decide) rfl rfl rfl rfl rfl ?_; intro B M w0 ρ0 Z0
    repeat' (first | (refine is_al ?_; (first | (refine is_move ?_; (first | refine al_v (opx_move (.raw _)) ⟨rfl, trivial⟩ trivial rfl ?_ | refine al_v (opx_move (.sl _ _)) ⟨rfl, trivial⟩ trivial rfl ?_)) | (refine is_bin ?_; refine al_v opx_neq ⟨rfl, rfl, trivial⟩ trivial rfl ?_) | (refine is_assign ?_; (first | refine al_v (opx_assign (.raw _)) ⟨rfl, trivial⟩ trivial rfl ?_ | refine al_v (opx_assign (.sl _ _)) ⟨rfl, trivial⟩ trivial rfl ?_)) | (refine is_bi ?_; refine al_v opx_len_sl ⟨rfl, trivial⟩ trivial rfl ?_) | (refine is_call ?_; refine al_callF (by (repeat (first | exact .nil | refine .one rfl rfl ?_ | refine .froz rfl rfl ?_ | refine .rnil rfl ?_ | refine .agg rfl (by (repeat (first | exact .nil | refine .cons (.same rfl) ?_ | refine .cons (.froz rfl) ?_ | refine .cons (.rnil) ?_)); (first | done | fail)) ?_)); (first | done | fail)) rfl (hcs) rfl ?_) | (refine is_st ?_; refine al_s (opx_sts_box (by rfl) (by rfl)) ⟨rfl, rfl, trivial⟩ ⟨rfl, trivial⟩ ?_) | refine al_n opx_alloc trivial trivial rfl ?_ | refine al_nil ?_ | refine al_v opx_build0 trivial trivial rfl ?_)) | (refine is_ad ?_; refine al_v opx_build0 trivial trivial rfl ?_) | (refine is_aw ?_; (first | refine aw_seq ?_ | refine aw_region ?_ | (refine is_cond ?_; refine aw_cond_t rfl (by assumption) ?_))) | refine thn_n ?_)
    refine aw_le (le_ownNil 2 2 52 rfl) ?_
    repeat' (first | (refine is_aw ?_; refine aw_ret ?_) | refine thn_r ?_)
    exact ret_row_cell_raw trivial rfl rfl rfl rfl (by kernel_rfl) rfl rfl rfl ⟨by rw [f1, f2]; rfl, by rw [f2]; rfl⟩
theorem c_sParseLine' (s : Str) (hs : s.length ≤ 100000000) : Con Tryd.prog 17 [rStr s] [] (fun rs all => rs = [slL (plG s).1, ptA (plG s).2.1 (plG s).2.2, rB (plB s)] ∧ all = []) :=
  (c_sParseLine s hs).froz fun rs all ⟨h1, h2⟩ => by subst h1 h2; exact ⟨⟨rfl, rfl⟩, rfl⟩
end Go.Proofs.YtllgddednlfhfaaDoor

/-
  Lines: the exact law of their reading.
-/
namespace Go.Proofs.YtllgddednlfhfaaDoor
open Go.RowKit
set_option linter.unusedVariables false
set_option linter.unusedSimpArgs false
attribute [local irreducible] AL AW OpX Le AD

section
variable {P : Program} {ops : Array Oper} {cx : Cx} {Q : APost} {rest : List Oper} {l : SL} {m : OL} {n : Nat}
variable {d : Nat} {ty : TypeId} {pos : String} {af : Array Edge} {f : FuncId} {xs : List Operand} {ats : Array TypeId} {args : List AR}
/-- a slice of the call's own, a struct of two cells and a value -/
theorem al_callrcv {wd : Nat} {e : TypeId} {rows : List (List CV)} {a b v : Value} (ha : Args (lk .dead l) (lk .gone m) (cpi [] n) false xs args) (hd : Nat.blt d cx.N = true)
    (hc : Con P f args [] (fun rs all => rs = [.one (.own 0), .agg [.c (.raw a), .c (.raw b)], .one (.c (.raw v))] ∧ all = [.row wd e rows]))
    (k : AL P ops cx Q rest ((d, .tup [.one (.own n), .agg [.c (.raw a), .c (.raw b)], .one (.c (.raw v))]) :: l) ((n, .row wd e rows) :: m) (n + 1)) :
    AL P ops cx Q (⟨some d, .call { callee := .value (.func f), args := xs.toArray, argTypes := ats }, ty, pos, af, none⟩ :: rest) l m n :=
  al_call hc ha hd fun rs all ⟨h1, h2⟩ => by
    subst h1 h2
    exact k
end
theorem plG_len {s : Str} : (plG s).1.length ≤ 4 := by
  cases h : plO s with
  | none => rw [(pl_none h).2]; exact Nat.zero_le _
  | some g =>
    obtain ⟨a, b, c, _, _, e⟩ := pl_of (s := s) (by rw [plB, h]; rfl)
    rw [e]; exact prsL_len
theorem c_fnExactParseLine (s : Str) (hL : s.length ≤ 9223372036854775807) : Con Tryd.prog 5 [rStr s] [] (fun rs all => rs = [rB true] ∧ all = []) := by
  refine con_of_aw (vars := [.tmp 2]) [(0, .r (rStr s))] [] 0 Tryd.func5 (by kernel_rfl) rfl Tryd.ntmps5 rfl (by decide) rfl rfl rfl rfl rfl ?_; intro B M w0 ρ0 Z0
  rcases Nat.lt_or_ge 1048576 s.length with h | h
  · have d1 : decide ((1048576 : Int) < (s.length : Int)) = true := decide_eq_true (by omega)
    repeat' (first | (refine is_al ?_; (first | (refine is_move ?_; refine al_v (opx_move (.raw _)) ⟨rfl, trivial⟩ trivial rfl ?_) | (refine is_bin ?_; refine al_v opx_gtr ⟨rfl, rfl, trivial⟩ trivial rfl ?_) | (refine is_assign ?_; refine al_v (opx_assign (.raw _)) ⟨rfl, trivial⟩ trivial rfl ?_) | (refine is_bi ?_; refine al_v opx_len_str ⟨rfl, trivial⟩ trivial rfl ?_) | refine al_nil ?_)) | (refine is_aw ?_; (first | refine aw_seq ?_ | refine aw_region ?_ | refine aw_ret ?_ | (refine is_cond ?_; refine aw_cond_t rfl (by assumption) ?_))) | refine thn_r ?_)
    exact ret_raw trivial rfl ⟨congrArg (fun b => [rB b]) (rfl), rfl⟩
  have d1 : decide ((1048576 : Int) < (s.length : Int)) = false := decide_eq_false (by omega)
  have hl4 := plG_len (s := s)
  have c1 : Con Tryd.prog 18 [rStr s] [] (fun rs all => rs = [.one (.own 0), .agg [.c (.raw (.int .i64 (plG s).2.1)), .c (.raw (.int .i64 (plG s).2.2))], .one (.c (.raw (.bool (plB s))))] ∧ all = [.row 2 52 (lbRs (plG s).1)]) := c_ParseLine s (by omega)
  have c2 := c_sParseLine' s (by omega)
  obtain ⟨g, hg⟩ : ∃ g, plG s = g := ⟨_, rfl⟩
  obtain ⟨l, t, v⟩ := g
  rw [hg] at c1 c2 hl4
  dsimp only at c1 c2 hl4
  generalize plB s = B at c1 c2
  have n0 : (!true) = false := rfl
  have hE4 := neBB B
  have c3 : Con Tryd.prog 19 [ptA t v, ptA t v] [] (fun rs all => rs = [rB true] ∧ all = []) := by
    have h := c_eqPoint t v t v
    rwa [decide_eq_true ⟨rfl, rfl⟩] at h
  have hm2 : decide ((1 : Int) + 2 * (l.length : Int) < 0) = false := decide_eq_false (by omega)
  have hm3 : (!decide ((1 : Int) + 2 * (l.length : Int) = 1 + 2 * (l.length : Int))) = false := neD _
  repeat' (first | (refine is_al ?_; (first | (refine is_gd ?_; refine al_on rfl rfl rfl (by assumption) ?_) | (refine is_move ?_; (first | refine al_v (opx_move (.raw _)) ⟨rfl, trivial⟩ trivial rfl ?_ | refine al_v (opx_move (.sl _ _)) ⟨rfl, trivial⟩ trivial rfl ?_ | refine al_v (opx_move (.own _)) ⟨rfl, trivial⟩ trivial rfl ?_ | refine al_v (opx_move (.tup _)) ⟨rfl, trivial⟩ trivial rfl ?_)) | (refine is_bin ?_; (first | refine al_v opx_neq ⟨rfl, rfl, trivial⟩ trivial rfl ?_ | refine al_v opx_lss ⟨rfl, rfl, trivial⟩ trivial rfl ?_ | refine al_v opx_gtr ⟨rfl, rfl, trivial⟩ trivial rfl ?_ | refine al_v opx_bneq ⟨rfl, rfl, trivial⟩ trivial rfl ?_)) | (refine is_load ?_; refine al_v opx_ld2_box ⟨rfl, trivial⟩ ⟨rfl, trivial⟩ rfl ?_) | (refine is_assign ?_; (first | refine al_v (opx_assign (.raw _)) ⟨rfl, trivial⟩ trivial rfl ?_ | refine al_v (opx_assign (.sl _ _)) ⟨rfl, trivial⟩ trivial rfl ?_ | refine al_v (opx_assign (.own _)) ⟨rfl, trivial⟩ trivial rfl ?_)) | (refine is_pick ?_; refine al_v (opx_pick_f (.raw _) rfl) ⟨rfl, rfl, trivial⟩ trivial rfl ?_) | (refine is_bi ?_; refine al_v opx_len_str ⟨rfl, trivial⟩ trivial rfl ?_) | (refine is_call ?_; (first | refine al_callF (by (repeat (first | exact .nil | refine .one rfl rfl ?_ | refine .froz rfl rfl ?_ | refine .rnil rfl ?_ | refine .agg rfl (by (repeat (first | exact .nil | refine .cons (.same rfl) ?_ | refine .cons (.froz rfl) ?_ | refine .cons (.rnil) ?_)); (first | done | fail)) ?_)); (first | done | fail)) rfl (c2) rfl ?_ | refine al_callrcv (by (repeat (first | exact .nil | refine .one rfl rfl ?_ | refine .froz rfl rfl ?_ | refine .rnil rfl ?_ | refine .agg rfl (by (repeat (first | exact .nil | refine .cons (.same rfl) ?_ | refine .cons (.froz rfl) ?_ | refine .cons (.rnil) ?_)); (first | done | fail)) ?_)); (first | done | fail)) rfl (c1) ?_ | refine al_callv2 (by (repeat (first | exact .nil | refine .one rfl rfl ?_ | refine .froz rfl rfl ?_ | refine .row rfl rfl ?_ | refine .rnil rfl ?_ | refine .agg rfl (by (repeat (first | exact .nil | refine .cons (.same rfl) ?_ | refine .cons (.froz rfl) ?_ | refine .cons (.rnil) ?_ | refine .cons (.row rfl rfl) ?_)); (first | done | fail)) ?_)); (first | done | fail)) rfl (c_eqLabelS _ (by omega)) rfl ?_ | refine al_callF (by (repeat (first | exact .nil | refine .one rfl rfl ?_ | refine .froz rfl rfl ?_ | refine .rnil rfl ?_ | refine .agg rfl (by (repeat (first | exact .nil | refine .cons (.same rfl) ?_ | refine .cons (.froz rfl) ?_ | refine .cons (.rnil) ?_)); (first | done | fail)) ?_)); (first | done | fail)) rfl (c3) rfl ?_ | refine al_mark 1 rfl rfl (by (repeat (first | exact .nil | refine .one rfl rfl ?_ | refine .tag rfl ?_ | refine .froz rfl rfl ?_ | refine .rnil rfl ?_ | refine .agg rfl (by (repeat (first | exact .nil | refine .cons (.same rfl) ?_ | refine .cons (.froz rfl) ?_ | refine .cons (.rnil) ?_)); (first | done | fail)) ?_)); (first | done | fail)) rfl (c_markLabelS _ _ (by omega) (by omega)) ?_ | refine al_callv2 (by (repeat (first | exact .nil | refine .one rfl rfl ?_ | refine .froz rfl rfl ?_ | refine .row rfl rfl ?_ | refine .rnil rfl ?_ | refine .agg rfl (by (repeat (first | exact .nil | refine .cons (.same rfl) ?_ | refine .cons (.froz rfl) ?_ | refine .cons (.rnil) ?_ | refine .cons (.row rfl rfl) ?_)); (first | done | fail)) ?_)); (first | done | fail)) rfl (c_heldLabelS _ _ (by omega) (by omega)) rfl ?_)) | (refine is_st ?_; refine al_s (opx_sts_box (by rfl) (by rfl)) ⟨rfl, rfl, trivial⟩ ⟨rfl, trivial⟩ ?_) | refine al_v opx_not ⟨rfl, trivial⟩ trivial rfl ?_ | refine al_v (opx_extract _ rfl) ⟨rfl, trivial⟩ trivial rfl ?_ | refine al_n opx_alloc trivial trivial rfl ?_ | refine al_nil ?_)) | (refine is_aw ?_; (first | refine aw_seq ?_ | refine aw_region ?_ | refine aw_skip ?_ | refine aw_ret ?_ | (refine is_cond ?_; (first | refine aw_cond_f rfl rfl ?_ | refine aw_cond_f rfl (by assumption) ?_)))))
  exact ret_raw trivial rfl ⟨congrArg (fun b => [rB b]) (rfl), rfl⟩
end Go.Proofs.YtllgddednlfhfaaDoor

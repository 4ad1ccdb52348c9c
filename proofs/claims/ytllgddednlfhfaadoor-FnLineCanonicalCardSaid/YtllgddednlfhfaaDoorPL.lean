/-
  Labels and their texts: the plain law.
-/
import Derived.Test.YtllgddednlfhfaaDoorDat3
namespace Go.Proofs.YtllgddednlfhfaaDoor
set_option linter.unusedVariables false
set_option linter.unusedSimpArgs false

abbrev Lb := Str × Str
/-- A word. -/
def lowB (c : UInt8) : Prop := 97 ≤ c.toNat ∧ c.toNat ≤ 122
instance (c : UInt8) : Decidable (lowB c) := by unfold lowB; infer_instance
def vw (s : Str) : Prop := 1 ≤ s.length ∧ s.length ≤ 4 ∧ ∀ c ∈ s, lowB c
instance (s : Str) : Decidable (vw s) := by unfold vw; infer_instance
/-- One label behind another. -/
def lbOk (l : List Lb) (k : Nat) : Prop := ∀ x, l[k]? = some x → vw x.1 ∧ vw x.2 ∧ ∀ y, 0 < k → l[k - 1]? = some y → sle x.1 y.1 = false
def VL (l : List Lb) : Prop := l.length ≤ 4 ∧ ∀ k, lbOk l k
open Classical in
noncomputable def vlB (l : List Lb) : Bool := decide (VL l)
open Classical in
theorem vlB_t {l : List Lb} (h : VL l) : vlB l = true := by unfold vlB; exact decide_eq_true h
open Classical in
theorem vlB_f {l : List Lb} (h : ¬ VL l) : vlB l = false := by unfold vlB; exact decide_eq_false h
open Classical in
theorem vlB_of {l : List Lb} (h : vlB l = true) : VL l := by unfold vlB at h; exact of_decide_eq_true h
open Classical in
theorem vlB_of_f {l : List Lb} (h : vlB l = false) : ¬ VL l := by unfold vlB at h; exact of_decide_eq_false h
theorem VL_mem {l : List Lb} (h : VL l) {x : Lb} (hx : x ∈ l) : vw x.1 ∧ vw x.2 := by
  obtain ⟨k, hk⟩ := List.mem_iff_getElem?.1 hx
  exact ⟨(h.2 k x hk).1, (h.2 k x hk).2.1⟩
theorem low_ne {c : UInt8} (h : lowB c) {d : UInt8} (hd : d.toNat < 97 ∨ 122 < d.toNat) : c ≠ d := by
  rintro rfl; unfold lowB at h; omega
theorem vw_not {s : Str} (h : vw s) {d : UInt8} (hd : d.toNat < 97 ∨ 122 < d.toNat) : d ∉ s := fun hm => low_ne (h.2.2 d hm) hd rfl

/-! ### joined and split -/
def jn (c : UInt8) : List Str → Str
  | [] => []
  | [x] => x
  | x :: y :: r => x ++ c :: jn c (y :: r)
theorem jn_cons {c : UInt8} {x : Str} {r : List Str} (h : r ≠ []) : jn c (x :: r) = x ++ c :: jn c r := by
  cases r with
  | nil => exact absurd rfl h
  | cons y r => rfl
theorem jn_snoc {c : UInt8} : ∀ {l : List Str} {y : Str}, l ≠ [] → jn c (l ++ [y]) = jn c l ++ c :: y
  | [], y, h => absurd rfl h
  | [x], y, _ => rfl
  | x :: z :: r, y, _ => by
    have := jn_snoc (c := c) (l := z :: r) (y := y) (by simp)
    rw [List.cons_append, jn_cons (r := z :: r ++ [y]) (by simp), this, jn_cons (r := z :: r) (by simp), List.append_assoc, List.cons_append]
def spl (c : UInt8) : Str → List Str
  | [] => [[]]
  | a :: r => if a = c then [] :: spl c r else match spl c r with
    | p :: ps => (a :: p) :: ps
    | [] => [[a]]
theorem spl_ne {c : UInt8} : ∀ {s : Str}, spl c s ≠ []
  | [] => by simp [spl]
  | a :: r => by
    simp only [spl]
    split
    · simp
    · split <;> simp
theorem spl_none {c : UInt8} : ∀ {s : Str}, c ∉ s → spl c s = [s]
  | [], _ => rfl
  | a :: r, h => by
    have h1 : a ≠ c := fun e => h (e ▸ .head _)
    have h2 := spl_none (c := c) (s := r) (fun hm => h (.tail _ hm))
    simp only [spl, if_neg h1, h2]
theorem spl_cut {c : UInt8} : ∀ {x r : Str}, c ∉ x → spl c (x ++ c :: r) = x :: spl c r
  | [], r, _ => by simp [spl]
  | a :: x, r, h => by
    have h1 : a ≠ c := fun e => h (e ▸ .head _)
    have h2 := spl_cut (c := c) (x := x) (r := r) (fun hm => h (.tail _ hm))
    simp only [List.cons_append, spl, if_neg h1, h2]
theorem cut_at {c : UInt8} : ∀ {s : Str}, c ∈ s → ∃ x r, s = x ++ c :: r ∧ c ∉ x
  | [], h => by cases h
  | a :: s, h => by
    by_cases e : a = c
    · exact ⟨[], s, by rw [e]; rfl, by simp⟩
    · have h1 : c ∈ s := by
        rcases List.mem_cons.1 h with h | h
        · exact absurd h.symm e
        · exact h
      obtain ⟨x, r, h2, h3⟩ := cut_at h1
      refine ⟨a :: x, r, by rw [h2]; rfl, fun hm => ?_⟩
      rcases List.mem_cons.1 hm with h | h
      · exact e h.symm
      · exact h3 h
theorem jn_spl {c : UInt8} : ∀ (n : Nat) {s : Str}, s.length ≤ n → jn c (spl c s) = s
  | n, s, hn => by
    by_cases h : c ∈ s
    · obtain ⟨x, r, rfl, hx⟩ := cut_at h
      rw [spl_cut hx, jn_cons spl_ne]
      cases n with
      | zero => simp at hn
      | succ n => rw [jn_spl n (by simp at hn; omega)]
    · rw [spl_none h]; rfl
theorem spl_jn {c : UInt8} : ∀ {l : List Str}, l ≠ [] → (∀ p ∈ l, c ∉ p) → spl c (jn c l) = l
  | [], h, _ => absurd rfl h
  | [x], _, h => spl_none (h x (.head _))
  | x :: y :: r, _, h => by
    rw [jn_cons (by simp), spl_cut (h x (.head _)), spl_jn (by simp) (fun p hp => h p (.tail _ hp))]
/-! ### the text of labels -/
def eqt (x : Lb) : Str := x.1 ++ 61 :: x.2
def txt (l : List Lb) : Str := 123 :: (jn 44 (l.map eqt) ++ [125])
theorem eqt_comma {x : Lb} (h1 : vw x.1) (h2 : vw x.2) : (44 : UInt8) ∉ eqt x := by
  intro h
  rcases List.mem_append.1 h with h | h
  · exact vw_not h1 (by decide) h
  · rcases List.mem_cons.1 h with h | h
    · exact absurd h (by decide)
    · exact vw_not h2 (by decide) h
theorem spl_txt {l : List Lb} (h : VL l) (hn : l ≠ []) : spl 44 (jn 44 (l.map eqt)) = l.map eqt :=
  spl_jn (by simpa using hn) fun p hp => by
    obtain ⟨x, hx, rfl⟩ := List.mem_map.1 hp
    obtain ⟨h1, h2⟩ := VL_mem h hx
    exact eqt_comma h1 h2
theorem cut_eq {a b x y : Str} (ha : (61 : UInt8) ∉ a) (hx : (61 : UInt8) ∉ x) (h : a ++ 61 :: b = x ++ 61 :: y) : a = x ∧ b = y := by
  induction a generalizing x with
  | nil =>
    cases x with
    | nil => simp at h; exact ⟨rfl, h⟩
    | cons c x => simp at h; exact absurd (h.1 ▸ .head _) hx
  | cons c a ih =>
    cases x with
    | nil => simp at h; exact absurd (h.1 ▸ .head _) ha
    | cons d x =>
      simp at h
      obtain ⟨h1, h2⟩ := ih (fun hm => ha (.tail _ hm)) (fun hm => hx (.tail _ hm)) h.2
      exact ⟨by rw [h.1, h1], h2⟩
theorem eqts_inj : ∀ {l m : List Lb}, (∀ x ∈ l, (61 : UInt8) ∉ x.1) → (∀ x ∈ m, (61 : UInt8) ∉ x.1) → l.map eqt = m.map eqt → l = m
  | [], [], _, _, _ => rfl
  | [], _ :: _, _, _, h => by cases h
  | _ :: _, [], _, _, h => by cases h
  | x :: l, y :: m, h1, h2, h => by
    simp only [List.map_cons, List.cons.injEq] at h
    obtain ⟨h3, h4⟩ := cut_eq (h1 x (.head _)) (h2 y (.head _)) h.1
    rw [eqts_inj (fun z hz => h1 z (.tail _ hz)) (fun z hz => h2 z (.tail _ hz)) h.2]
    exact congrArg (· :: m) (Prod.ext h3 h4)
theorem VL_eq {l : List Lb} (h : VL l) : ∀ x ∈ l, (61 : UInt8) ∉ x.1 := fun x hx => vw_not (VL_mem h hx).1 (by decide)
/-- What lies between the braces. -/
def ins (s : Str) : Str := (s.take (s.length - 1)).drop 1
theorem ins_txt {l : List Lb} : ins (txt l) = jn 44 (l.map eqt) := by
  unfold ins txt
  rw [List.length_cons, List.length_append, List.length_singleton, Nat.add_sub_cancel, List.take_succ_cons, List.drop_succ_cons, List.drop_zero, List.take_left']
  rfl
/-- The labels with a text. -/
def IsT (s : Str) (l : List Lb) : Prop := VL l ∧ txt l = s
open Classical in
noncomputable def prsB (s : Str) : Bool := decide (∃ l, IsT s l)
open Classical in
noncomputable def prsL (s : Str) : List Lb := if h : ∃ l, IsT s l then Classical.choose h else []
theorem jn_eqt_nil {l : List Lb} (h : jn 44 (l.map eqt) = []) : l = [] := by
  match l with
  | [] => rfl
  | [x] => simp [jn, eqt] at h
  | x :: y :: r => simp [jn, eqt] at h
theorem IsT_inj {s : Str} {l m : List Lb} (h1 : IsT s l) (h2 : IsT s m) : l = m := by
  obtain ⟨a1, a2⟩ := h1
  obtain ⟨b1, b2⟩ := h2
  have e : jn 44 (l.map eqt) = jn 44 (m.map eqt) := by rw [← ins_txt, ← ins_txt, a2, b2]
  by_cases hl : l = []
  · subst hl
    exact (jn_eqt_nil (e.symm.trans rfl)).symm
  · by_cases hm : m = []
    · subst hm
      exact jn_eqt_nil (e.trans rfl)
    · have e2 := congrArg (spl 44) e
      rw [spl_txt a1 hl, spl_txt b1 hm] at e2
      exact eqts_inj (VL_eq a1) (VL_eq b1) e2
open Classical in
theorem prs_t {s : Str} {l : List Lb} (h : IsT s l) : prsB s = true ∧ prsL s = l := by
  have hx : ∃ l, IsT s l := ⟨l, h⟩
  refine ⟨by unfold prsB; exact decide_eq_true hx, ?_⟩
  unfold prsL
  rw [dif_pos hx]
  exact IsT_inj (Classical.choose_spec hx) h
open Classical in
theorem prs_f {s : Str} (h : ∀ l, ¬ IsT s l) : prsB s = false ∧ prsL s = [] := by
  have hx : ¬ ∃ l, IsT s l := fun ⟨l, hl⟩ => h l hl
  exact ⟨by unfold prsB; exact decide_eq_false hx, by unfold prsL; rw [dif_neg hx]⟩
open Classical in
theorem prs_of {s : Str} (h : prsB s = true) : IsT s (prsL s) := by
  have hx : ∃ l, IsT s l := by unfold prsB at h; exact of_decide_eq_true h
  unfold prsL
  rw [dif_pos hx]
  exact Classical.choose_spec hx
/-- The labels read from the parts: right if they are valid. -/
theorem IsT_mk {s : Str} {l : List Lb} (hs : s = 123 :: (ins s ++ [125])) (hi : ins s ≠ []) (hp : spl 44 (ins s) = l.map eqt) (hv : VL l) : IsT s l := by
  refine ⟨hv, ?_⟩
  have := jn_spl (c := 44) (ins s).length (s := ins s) (Nat.le_refl _)
  rw [hp] at this
  rw [txt, this, ← hs]
theorem IsT_parts {s : Str} {l : List Lb} (h : IsT s l) (hi : ins s ≠ []) : spl 44 (ins s) = l.map eqt ∧ VL l := by
  obtain ⟨h1, rfl⟩ := h
  rw [ins_txt] at hi ⊢
  refine ⟨spl_txt h1 ?_, h1⟩
  rintro rfl
  exact hi rfl
theorem IsT_shape {s : Str} {l : List Lb} (h : IsT s l) : s = 123 :: (ins s ++ [125]) := by
  obtain ⟨h1, rfl⟩ := h
  rw [ins_txt]; rfl
theorem IsT_nil : IsT [123, 125] [] := ⟨⟨Nat.zero_le _, fun k x hx => by simp at hx⟩, rfl⟩
end Go.Proofs.YtllgddednlfhfaaDoor

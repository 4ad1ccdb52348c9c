/- Texts: PS -/
import Derived.Test.YtfoecgfboicphaaGreatDoorCL17
import Derived.Test.YtfoecgfboicphaaGreatDoorCL8
/-
  Series: the plain law.
-/
namespace Go.Proofs.YtfoecgfboicphaaGreatDoor
set_option linter.unusedVariables false

abbrev Pt := Int × Int
def asc (ps : List Pt) : Prop := ps.Pairwise fun a b => a.1 < b.1
/-- A point at its place. -/
def put (ps : List Pt) (p : Pt) : List Pt := ps.filter (fun x => decide (x.1 < p.1)) ++ p :: ps.filter (fun x => decide (p.1 < x.1))

theorem mem_put {ps : List Pt} {p x : Pt} : x ∈ put ps p ↔ x = p ∨ (x ∈ ps ∧ x.1 ≠ p.1) := by
  simp only [put, List.mem_append, List.mem_cons, List.mem_filter, decide_eq_true_eq]
  constructor
  · rintro (⟨h1, h2⟩ | h | ⟨h1, h2⟩)
    · exact .inr ⟨h1, by omega⟩
    · exact .inl h
    · exact .inr ⟨h1, by omega⟩
  · rintro (h | ⟨h1, h2⟩)
    · exact .inr (.inl h)
    · rcases Int.lt_or_gt_of_ne h2 with h | h
      · exact .inl ⟨h1, h⟩
      · exact .inr (.inr ⟨h1, h⟩)

theorem asc_nil : asc [] := List.Pairwise.nil
theorem asc_filter {ps : List Pt} {f : Pt → Bool} (h : asc ps) : asc (ps.filter f) := List.Pairwise.filter f h
theorem asc_append {xs ys : List Pt} : asc (xs ++ ys) ↔ asc xs ∧ asc ys ∧ ∀ x ∈ xs, ∀ y ∈ ys, x.1 < y.1 := List.pairwise_append
theorem asc_cons {x : Pt} {ys : List Pt} : asc (x :: ys) ↔ (∀ y ∈ ys, x.1 < y.1) ∧ asc ys := List.pairwise_cons
theorem asc_put {ps : List Pt} {p : Pt} (h : asc ps) : asc (put ps p) := by
  refine asc_append.2 ⟨asc_filter h, asc_cons.2 ⟨fun y hy => ?_, asc_filter h⟩, fun x hx y hy => ?_⟩
  · have := (List.mem_filter.1 hy).2; simpa using this
  · have h1 : x.1 < p.1 := by have := (List.mem_filter.1 hx).2; simpa using this
    rcases List.mem_cons.1 hy with rfl | hy
    · exact h1
    · have h2 : p.1 < y.1 := by have := (List.mem_filter.1 hy).2; simpa using this
      omega
theorem asc_take {ps : List Pt} (k : Nat) (h : asc ps) : asc (ps.take k) := List.Pairwise.sublist (List.take_sublist k ps) h
theorem asc_drop {ps : List Pt} (k : Nat) (h : asc ps) : asc (ps.drop k) := List.Pairwise.sublist (List.drop_sublist k ps) h

theorem okAt_asc {ps : List Pt} (h : ∀ k, okAt ps k) : asc ps := by
  have key : ∀ (d i : Nat) (p q : Pt), ps[i]? = some p → ps[i + d + 1]? = some q → p.1 < q.1 := by
    intro d
    induction d with
    | zero =>
      intro i p q hp hq
      rcases (h (i + 0 + 1) q hq).2 with h1 | h1
      · omega
      · exact h1 p (by simpa using hp)
    | succ d ih =>
      intro i p q hp hq
      have hlt : i + d + 1 < ps.length := by have := (List.getElem?_eq_some_iff.1 hq).1; omega
      have hr : ps[i + d + 1]? = some ps[i + d + 1] := List.getElem?_eq_getElem hlt
      have h1 := ih i p _ hp hr
      rcases (h (i + (d + 1) + 1) q hq).2 with h2 | h2
      · omega
      · have := h2 _ (by rw [show i + (d + 1) + 1 - 1 = i + d + 1 by omega]; exact hr)
        omega
  refine List.pairwise_iff_getElem.2 fun i j hi hj hij => ?_
  exact key (j - i - 1) i _ _ (List.getElem?_eq_getElem hi) (by rw [show i + (j - i - 1) + 1 = j by omega]; exact List.getElem?_eq_getElem hj)
theorem VS_iff {ps : List Pt} : VS ps ↔ ps.length ≤ 16 ∧ (∀ p ∈ ps, okPt p) ∧ asc ps := by
  constructor
  · intro h
    refine ⟨h.1, fun p hp => ?_, okAt_asc h.2⟩
    obtain ⟨k, hk⟩ := List.getElem?_of_mem hp
    exact (h.2 k p hk).1
  · rintro ⟨h1, h2, h3⟩
    refine ⟨h1, fun k p hp => ⟨h2 p (List.mem_of_getElem? hp), ?_⟩⟩
    rcases k with _ | k
    · exact .inl rfl
    · refine .inr fun q hq => ?_
      have h4 := List.getElem?_eq_some_iff.1 hp
      have h5 := List.getElem?_eq_some_iff.1 hq
      obtain ⟨h6, rfl⟩ := h4
      obtain ⟨h7, rfl⟩ := h5
      exact List.pairwise_iff_getElem.1 h3 k (k + 1) (by omega) h6 (by omega)
theorem VS.asc {ps : List Pt} (h : VS ps) : asc ps := (VS_iff.1 h).2.2
theorem VS.ok {ps : List Pt} (h : VS ps) : ∀ p ∈ ps, okPt p := (VS_iff.1 h).2.1
theorem VS_nil : VS [] := VS_iff.2 ⟨by simp, by simp, asc_nil⟩

def plc (ps : List Pt) (t : Int) : Nat := ps.countP fun x => decide (x.1 < t)
theorem plc_le {ps : List Pt} {t : Int} : plc ps t ≤ ps.length := List.countP_le_length
theorem plc_split : ∀ {ps : List Pt} {t : Int}, asc ps → ps.take (plc ps t) = ps.filter (fun x => decide (x.1 < t)) ∧ ps.drop (plc ps t) = ps.filter (fun x => decide (t ≤ x.1))
  | [], t, _ => ⟨rfl, rfl⟩
  | p :: ps, t, h => by
    have h' := asc_cons.1 h
    by_cases hp : p.1 < t
    · obtain ⟨h1, h2⟩ := plc_split (t := t) h'.2
      have e : plc (p :: ps) t = plc ps t + 1 := by simp [plc, hp]
      rw [e]
      refine ⟨by rw [List.take_succ_cons, h1, List.filter_cons_of_pos (by simpa using hp)], by rw [List.drop_succ_cons, h2, List.filter_cons_of_neg (by simp; omega)]⟩
    · have hall : ∀ x ∈ p :: ps, t ≤ x.1 := fun x hx => by
        rcases List.mem_cons.1 hx with rfl | hx
        · omega
        · have := h'.1 x hx; omega
      have e : plc (p :: ps) t = 0 := by
        rw [plc, List.countP_eq_zero]
        intro x hx; have := hall x hx; simp; omega
      rw [e]
      refine ⟨?_, ?_⟩
      · rw [List.take_zero]; symm; rw [List.filter_eq_nil_iff]; intro x hx; have := hall x hx; simp; omega
      · rw [List.drop_zero]; symm; rw [List.filter_eq_self]; intro x hx; have := hall x hx; simpa using this
theorem plc_lo {ps : List Pt} {t : Int} (h : asc ps) {k : Nat} {p : Pt} (hp : ps[k]? = some p) : k < plc ps t ↔ p.1 < t := by
  obtain ⟨h1, h2⟩ := plc_split (t := t) h
  constructor
  · intro hk
    have : p ∈ ps.take (plc ps t) := by
      rw [List.mem_iff_getElem?]; exact ⟨k, by rw [List.getElem?_take_of_lt hk]; exact hp⟩
    rw [h1] at this
    simpa using (List.mem_filter.1 this).2
  · intro hlt
    rcases Nat.lt_or_ge k (plc ps t) with h3 | h3
    · exact h3
    · have : p ∈ ps.drop (plc ps t) := by
        rw [List.mem_iff_getElem?]; exact ⟨k - plc ps t, by rw [List.getElem?_drop, show plc ps t + (k - plc ps t) = k by omega]; exact hp⟩
      rw [h2] at this
      have h4 := (List.mem_filter.1 this).2
      simp at h4; omega

/-- What insertPoint makes. -/
theorem put_cut {ps : List Pt} {p : Pt} (h : asc ps) {b : Nat} (hb : b = if (ps[plc ps p.1]?).any (fun q => decide (q.1 = p.1)) then plc ps p.1 + 1 else plc ps p.1) : ps.take (plc ps p.1) ++ p :: ps.drop b = put ps p := by
  obtain ⟨h1, h2⟩ := plc_split (t := p.1) h
  have hd := asc_drop (plc ps p.1) h
  unfold put
  rw [h1]
  congr 2
  have e : ps.filter (fun x => decide (p.1 < x.1)) = (ps.drop (plc ps p.1)).filter (fun x => decide (p.1 < x.1)) := by
    rw [h2, List.filter_filter]
    refine List.filter_congr fun x hx => ?_
    rw [Bool.eq_iff_iff]; simp; omega
  have hget : ps[plc ps p.1]? = (ps.drop (plc ps p.1))[0]? := by rw [List.getElem?_drop]; rfl
  rw [e, hb, hget]
  cases hx : ps.drop (plc ps p.1) with
  | nil =>
    have : ps.length ≤ plc ps p.1 := List.drop_eq_nil_iff.1 hx
    simp only [List.getElem?_nil, Option.any_none, Bool.false_eq_true, if_false, List.filter_nil]
    exact hx
  | cons q qs =>
    rw [hx] at hd
    have hq := asc_cons.1 hd
    have hge : p.1 ≤ q.1 := by
      have : q ∈ ps.drop (plc ps p.1) := by rw [hx]; exact .head _
      rw [h2] at this
      simpa using (List.mem_filter.1 this).2
    have hqs : qs.filter (fun x => decide (p.1 < x.1)) = qs := by
      rw [List.filter_eq_self]; intro x hx'; have := hq.1 x hx'; simp; omega
    by_cases heq : q.1 = p.1
    · have e1 : ((q :: qs)[0]?).any (fun q => decide (q.1 = p.1)) = true := by simp [heq]
      rw [e1, if_pos rfl, List.filter_cons_of_neg (by simp; omega), hqs, ← List.drop_drop, hx]; rfl
    · have e1 : ((q :: qs)[0]?).any (fun q => decide (q.1 = p.1)) = false := by simp [heq]
      rw [e1, if_neg (by simp), List.filter_cons_of_pos (by simp; omega), hqs, hx]

theorem put_ok {ps : List Pt} {p : Pt} (h : ∀ x ∈ ps, okPt x) (hp : okPt p) : ∀ x ∈ put ps p, okPt x := fun x hx => by
  rcases mem_put.1 hx with rfl | ⟨h1, _⟩
  · exact hp
  · exact h x h1
theorem VS_put {ps : List Pt} {p : Pt} (h : VS ps) (hp : okPt p) (hl : (put ps p).length ≤ 16) : VS (put ps p) := VS_iff.2 ⟨hl, put_ok h.ok hp, asc_put h.asc⟩
def puts (a b : List Pt) : List Pt := b.foldl put a
def vat (ps : List Pt) (t : Int) : Option Int := ((ps.filter (fun x => decide (x.1 ≤ t))).getLast?).map (·.2)
def rng (ps : List Pt) (lo hi : Int) : List Pt := ps.filter fun x => decide (lo ≤ x.1 ∧ x.1 < hi)
theorem le_lt {ps : List Pt} {t : Int} : ps.filter (fun x => decide (x.1 ≤ t)) = ps.filter (fun x => decide (x.1 < t + 1)) := List.filter_congr fun x _ => by rw [Bool.eq_iff_iff]; simp; omega
theorem vat_at {ps : List Pt} {t : Int} (h : asc ps) {k : Nat} (hk : plc ps (t + 1) = k + 1) : ∃ p, ps[k]? = some p ∧ vat ps t = some p.2 := by
  obtain ⟨h1, h2⟩ := plc_split (t := t + 1) h
  have hlt : k < ps.length := by have := plc_le (ps := ps) (t := t + 1); omega
  refine ⟨ps[k], List.getElem?_eq_getElem hlt, ?_⟩
  rw [vat, le_lt, ← h1, hk, List.getLast?_eq_getElem?, List.length_take, show min (k + 1) ps.length - 1 = k by omega, List.getElem?_take_of_lt (by omega), List.getElem?_eq_getElem hlt]; rfl
theorem vat_none {ps : List Pt} {t : Int} (h : asc ps) (hk : plc ps (t + 1) = 0) : vat ps t = none := by
  obtain ⟨h1, h2⟩ := plc_split (t := t + 1) h
  rw [vat, le_lt, ← h1, hk]; rfl
theorem mem_rng {ps : List Pt} {lo hi : Int} {x : Pt} : x ∈ rng ps lo hi ↔ x ∈ ps ∧ lo ≤ x.1 ∧ x.1 < hi := by simp [rng, List.mem_filter]
theorem asc_rng {ps : List Pt} {lo hi : Int} (h : asc ps) : asc (rng ps lo hi) := asc_filter h
theorem rng_cut {ps : List Pt} {lo hi : Int} (h : asc ps) (hl : lo ≤ hi) : (ps.take (plc ps hi)).drop (plc ps lo) = rng ps lo hi := by
  obtain ⟨h1, h2⟩ := plc_split (t := hi) h
  obtain ⟨h3, h4⟩ := plc_split (t := lo) (asc_take (plc ps hi) h)
  have e : plc ps lo = plc (ps.take (plc ps hi)) lo := by
    rw [h1, plc, plc, List.countP_filter]
    refine List.countP_congr fun x _ => ?_
    simp; omega
  rw [e, h4, h1, List.filter_filter, rng]
  refine List.filter_congr fun x _ => ?_
  rw [Bool.eq_iff_iff]; simp
theorem plc_mono {ps : List Pt} {lo hi : Int} (h : lo ≤ hi) : plc ps lo ≤ plc ps hi := List.countP_mono_left fun x _ hx => by simp at hx ⊢; omega
theorem rng_empty {ps : List Pt} {lo hi : Int} (h : hi ≤ lo) : rng ps lo hi = [] := by
  rw [rng, List.filter_eq_nil_iff]; intro x _; simp; omega
theorem VS_rng {ps : List Pt} {lo hi : Int} (h : VS ps) : VS (rng ps lo hi) :=
  VS_iff.2 ⟨Nat.le_trans (List.length_filter_le _ _) h.1, fun x hx => h.ok x (mem_rng.1 hx).1, asc_rng h.asc⟩
end Go.Proofs.YtfoecgfboicphaaGreatDoor

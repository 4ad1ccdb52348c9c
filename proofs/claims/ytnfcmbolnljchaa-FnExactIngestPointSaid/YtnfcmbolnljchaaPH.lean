/-
  Heads: the plain law.
-/
import Derived.Test.YtnfcmbolnljchaaPS
namespace Go.Proofs.Ytnfcmbolnljchaa
set_option linter.unusedVariables false
set_option linter.unusedSimpArgs false

/-- The greatest time in the open part, -1 if there is none. -/
def newest (o : List Pt) : Int := match o.getLast? with | some p => p.1 | none => -1
def hvP (w n : Int) (o c : List Pt) : Prop := (0 ≤ w ∧ w ≤ 100) ∧ VS o ∧ VS c ∧ n = newest o ∧ (∀ p ∈ o, n - w ≤ p.1) ∧ ∀ p ∈ c, p.1 < n - w
open Classical in
noncomputable def hvB (w n : Int) (o c : List Pt) : Bool := decide (hvP w n o c)
theorem hvB_t {w n : Int} {o c : List Pt} (h : hvP w n o c) : hvB w n o c = true := by simp [hvB, h]
theorem hvB_f {w n : Int} {o c : List Pt} (h : ¬ hvP w n o c) : hvB w n o c = false := by simp [hvB, h]
theorem hvB_of {w n : Int} {o c : List Pt} (h : hvB w n o c = true) : hvP w n o c := by simpa [hvB] using h
theorem newest_nil : newest [] = -1 := rfl
theorem newest_at {o : List Pt} {p : Pt} {k : Nat} (hk : o.length = k + 1) (hp : o[k]? = some p) : newest o = p.1 := by
  rw [newest, List.getLast?_eq_getElem?, show o.length - 1 = k by omega, hp]
theorem asc_first {o : List Pt} (h : asc o) {p : Pt} (hp : o[0]? = some p) {x : Pt} (hx : x ∈ o) : p.1 ≤ x.1 := by
  obtain ⟨i, hi⟩ := List.mem_iff_getElem?.1 hx
  rcases Nat.eq_zero_or_pos i with h0 | h0
  · subst h0; rw [hp] at hi; cases hi; omega
  · obtain ⟨h1, rfl⟩ := List.getElem?_eq_some_iff.1 hi
    obtain ⟨h2, rfl⟩ := List.getElem?_eq_some_iff.1 hp
    have := List.pairwise_iff_getElem.1 h 0 i h2 h1 h0
    omega
theorem asc_last {o : List Pt} (h : asc o) {p : Pt} {k : Nat} (hk : o.length = k + 1) (hp : o[k]? = some p) {x : Pt} (hx : x ∈ o) : x.1 ≤ p.1 := by
  obtain ⟨i, hi⟩ := List.mem_iff_getElem?.1 hx
  obtain ⟨h1, rfl⟩ := List.getElem?_eq_some_iff.1 hi
  obtain ⟨h2, rfl⟩ := List.getElem?_eq_some_iff.1 hp
  rcases Nat.lt_or_ge i k with h3 | h3
  · have := List.pairwise_iff_getElem.1 h i k h1 h2 h3
    omega
  · have : i = k := by omega
    subst this; omega
theorem newest_of {o : List Pt} (h : asc o) {p : Pt} (hp : p ∈ o) (hm : ∀ x ∈ o, x.1 ≤ p.1) : newest o = p.1 := by
  have hpos : 0 < o.length := List.length_pos_of_mem hp
  obtain ⟨k, hk⟩ : ∃ k, o.length = k + 1 := ⟨o.length - 1, by omega⟩
  have hq : o[k]? = some o[k] := List.getElem?_eq_getElem (by omega)
  rw [newest_at hk hq]
  have h1 := asc_last h hk hq hp
  have h2 := hm _ (List.getElem_mem (l := o) (n := k) (by omega))
  omega
theorem newest_in {o : List Pt} (h : asc o) : (o = [] ∧ newest o = -1) ∨ ∃ p ∈ o, newest o = p.1 ∧ ∀ x ∈ o, x.1 ≤ p.1 := by
  rcases Nat.eq_zero_or_pos o.length with h0 | h0
  · left
    obtain rfl := List.eq_nil_of_length_eq_zero h0
    exact ⟨rfl, rfl⟩
  · right
    obtain ⟨k, hk⟩ : ∃ k, o.length = k + 1 := ⟨o.length - 1, by omega⟩
    have hq : o[k]? = some o[k] := List.getElem?_eq_getElem (by omega)
    exact ⟨_, List.getElem_mem _, newest_at hk hq, fun x hx => asc_last h hk hq hx⟩
theorem newest_le {o : List Pt} (h : asc o) {x : Pt} (hx : x ∈ o) : x.1 ≤ newest o := by
  rcases newest_in h with ⟨rfl, _⟩ | ⟨p, _, h1, h2⟩
  · cases hx
  · rw [h1]; exact h2 x hx
theorem newest_rng {o : List Pt} (h : VS o) : -1 ≤ newest o ∧ newest o ≤ 1000 := by
  rcases newest_in h.asc with ⟨rfl, h1⟩ | ⟨p, hp, h1, _⟩
  · rw [h1]; omega
  · have := h.ok p hp; rw [h1]; exact ⟨by have := this.1; omega, this.2.1⟩

/-! ### a point comes -/
def hCut (w n : Int) (p : Pt) : Int := max n p.1 - w
def hOpen (w n : Int) (o : List Pt) (p : Pt) : List Pt := (put o p).filter fun x => decide (hCut w n p ≤ x.1)
def hMoved (w n : Int) (o : List Pt) (p : Pt) : List Pt := (put o p).filter fun x => decide (x.1 < hCut w n p)
def hClosed (w n : Int) (o c : List Pt) (p : Pt) : List Pt := c ++ hMoved w n o p
/-- What is asked of a point that comes. -/
def ingQ (w n : Int) (o c : List Pt) (p : Pt) : Prop := hvP w n o c ∧ okPt p ∧ n - w ≤ p.1
def ingP (w n : Int) (o c : List Pt) (p : Pt) : Prop := ingQ w n o c p ∧ (hOpen w n o p).length ≤ 16 ∧ (hClosed w n o c p).length ≤ 16
theorem hvP.rng {w n : Int} {o c : List Pt} (h : hvP w n o c) : -1 ≤ n ∧ n ≤ 1000 := by
  rw [h.2.2.2.1]; exact newest_rng h.2.1
theorem mem_hOpen {w n : Int} {o : List Pt} {p x : Pt} : x ∈ hOpen w n o p ↔ (x = p ∨ (x ∈ o ∧ x.1 ≠ p.1)) ∧ hCut w n p ≤ x.1 := by
  rw [hOpen, List.mem_filter, mem_put, decide_eq_true_eq]
theorem mem_hMoved {w n : Int} {o : List Pt} {p x : Pt} : x ∈ hMoved w n o p ↔ (x = p ∨ (x ∈ o ∧ x.1 ≠ p.1)) ∧ x.1 < hCut w n p := by
  rw [hMoved, List.mem_filter, mem_put, decide_eq_true_eq]
theorem asc_hOpen {w n : Int} {o : List Pt} {p : Pt} (h : asc o) : asc (hOpen w n o p) := asc_filter (asc_put h)
theorem asc_hMoved {w n : Int} {o : List Pt} {p : Pt} (h : asc o) : asc (hMoved w n o p) := asc_filter (asc_put h)
theorem asc_hClosed {w n : Int} {o c : List Pt} {p : Pt} (h : ingQ w n o c p) : asc (hClosed w n o c p) := by
  obtain ⟨⟨hw, ho, hc, hn, hlo, hcl⟩, hp, hnw⟩ := h
  refine asc_append.2 ⟨hc.asc, asc_hMoved ho.asc, fun x hx y hy => ?_⟩
  have h1 := hcl x hx
  obtain ⟨h2, _⟩ := mem_hMoved.1 hy
  rcases h2 with rfl | ⟨h2, _⟩
  · omega
  · have := hlo y h2; omega
theorem p_in_hOpen {w n : Int} {o c : List Pt} {p : Pt} (h : ingQ w n o c p) : p ∈ hOpen w n o p := by
  obtain ⟨⟨hw, _⟩, _, hnw⟩ := h
  refine mem_hOpen.2 ⟨.inl rfl, ?_⟩
  unfold hCut; omega
theorem newest_hOpen {w n : Int} {o c : List Pt} {p : Pt} (h : ingQ w n o c p) : newest (hOpen w n o p) = max n p.1 := by
  have hin := p_in_hOpen h
  obtain ⟨⟨hw, ho, hc, hn, hlo, hcl⟩, hp, hnw⟩ := h
  have hle : ∀ x ∈ hOpen w n o p, x.1 ≤ max n p.1 := fun x hx => by
    rcases (mem_hOpen.1 hx).1 with rfl | ⟨h2, _⟩
    · omega
    · have := newest_le ho.asc h2; omega
  rcases Int.lt_or_le p.1 n with hlt | hge
  · rcases newest_in ho.asc with ⟨rfl, h1⟩ | ⟨q, hq, h1, h2⟩
    · have := hp.1; omega
    · have hqin : q ∈ hOpen w n o p := mem_hOpen.2 ⟨.inr ⟨hq, by omega⟩, by unfold hCut; omega⟩
      rw [newest_of (asc_hOpen ho.asc) hqin (fun x hx => by have := hle x hx; omega)]
      omega
  · rw [newest_of (asc_hOpen ho.asc) hin (fun x hx => by have := hle x hx; omega)]
    omega
theorem ok_hOpen {w n : Int} {o c : List Pt} {p : Pt} (h : ingQ w n o c p) : ∀ x ∈ hOpen w n o p, okPt x := fun x hx => by
  rcases (mem_hOpen.1 hx).1 with rfl | ⟨h2, _⟩
  · exact h.2.1
  · exact h.1.2.1.ok x h2
theorem ok_hClosed {w n : Int} {o c : List Pt} {p : Pt} (h : ingQ w n o c p) : ∀ x ∈ hClosed w n o c p, okPt x := fun x hx => by
  rcases List.mem_append.1 hx with hx | hx
  · exact h.1.2.2.1.ok x hx
  · rcases (mem_hMoved.1 hx).1 with rfl | ⟨h2, _⟩
    · exact h.2.1
    · exact h.1.2.1.ok x h2
theorem hvP_ing {w n : Int} {o c : List Pt} {p : Pt} (h : ingQ w n o c p) : hvP w (max n p.1) (hOpen w n o p) (hClosed w n o c p) ↔ (hOpen w n o p).length ≤ 16 ∧ (hClosed w n o c p).length ≤ 16 := by
  constructor
  · intro hv; exact ⟨hv.2.1.1, hv.2.2.1.1⟩
  · rintro ⟨h1, h2⟩
    refine ⟨h.1.1, VS_iff.2 ⟨h1, ok_hOpen h, asc_hOpen h.1.2.1.asc⟩, VS_iff.2 ⟨h2, ok_hClosed h, asc_hClosed h⟩, (newest_hOpen h).symm, fun x hx => (mem_hOpen.1 hx).2, fun x hx => ?_⟩
    rcases List.mem_append.1 hx with hx | hx
    · have := h.1.2.2.2.2.2 x hx; omega
    · exact (mem_hMoved.1 hx).2
theorem ing_hv {w n : Int} {o c : List Pt} {p : Pt} (h : ingP w n o c p) : hvP w (max n p.1) (hOpen w n o p) (hClosed w n o c p) := (hvP_ing h.1).2 h.2
theorem filter_all {α : Type} {f : α → Bool} {l : List α} (h : ∀ x ∈ l, f x = true) : l.filter f = l := List.filter_eq_self.2 h
theorem filter_none {α : Type} {f : α → Bool} {l : List α} (h : ∀ x ∈ l, f x = false) : l.filter f = [] := List.filter_eq_nil_iff.2 fun x hx => by rw [h x hx]; simp
/-- A point that is not newer moves nothing. -/
theorem ing_stay {w n : Int} {o c : List Pt} {p : Pt} (h : ingQ w n o c p) (hp : p.1 ≤ n) : hOpen w n o p = put o p ∧ hMoved w n o p = [] := by
  have hall : ∀ x ∈ put o p, hCut w n p ≤ x.1 := fun x hx => by
    have h1 := h.2.2
    rcases mem_put.1 hx with rfl | ⟨h2, _⟩
    · unfold hCut; omega
    · have := h.1.2.2.2.2.1 x h2
      unfold hCut; omega
  exact ⟨filter_all fun x hx => decide_eq_true (hall x hx), filter_none fun x hx => decide_eq_false (by have := hall x hx; omega)⟩
/-! ### the laws -/
theorem law_in {w n : Int} {o c : List Pt} {p : Pt} (h : ingQ w n o c p) : p ∈ hClosed w n o c p ++ hOpen w n o p := List.mem_append.2 (.inr (p_in_hOpen h))
theorem law_old {w n : Int} {o c : List Pt} {p x : Pt} (h : ingQ w n o c p) (hx : x ∈ c ++ o) (hne : x.1 ≠ p.1) : x ∈ hClosed w n o c p ++ hOpen w n o p := by
  rcases List.mem_append.1 hx with hx | hx
  · exact List.mem_append.2 (.inl (List.mem_append.2 (.inl hx)))
  · rcases Int.lt_or_le x.1 (hCut w n p) with hlt | hge
    · exact List.mem_append.2 (.inl (List.mem_append.2 (.inr (mem_hMoved.2 ⟨.inr ⟨hx, hne⟩, hlt⟩))))
    · exact List.mem_append.2 (.inr (mem_hOpen.2 ⟨.inr ⟨hx, hne⟩, hge⟩))
/-- The point once more. -/
theorem law_twice {w n : Int} {o c : List Pt} {p : Pt} (h : ingP w n o c p) :
    ingP w (max n p.1) (hOpen w n o p) (hClosed w n o c p) p ∧ hOpen w (max n p.1) (hOpen w n o p) p = hOpen w n o p ∧ hClosed w (max n p.1) (hOpen w n o p) (hClosed w n o c p) p = hClosed w n o c p ∧ max (max n p.1) p.1 = max n p.1 := by
  have hq : ingQ w (max n p.1) (hOpen w n o p) (hClosed w n o c p) p := ⟨ing_hv h, h.1.2.1, by have := h.1.2.2; have := h.1.1.1; omega⟩
  obtain ⟨h1, h2⟩ := ing_stay hq (by omega)
  rw [put_mem (asc_hOpen h.1.1.2.1.asc) (p_in_hOpen h.1)] at h1
  refine ⟨⟨hq, by rw [h1]; exact h.2.1, by rw [hClosed, h2, List.append_nil]; exact h.2.2⟩, h1, by rw [hClosed, h2, List.append_nil], by omega⟩
/-- A head whose closed points are gone. -/
theorem hv_empty {w n : Int} {o c : List Pt} (h : hvP w n o c) : hvP w n o [] := ⟨h.1, h.2.1, VS_nil, h.2.2.2.1, h.2.2.2.2.1, fun x hx => by cases hx⟩
theorem law_closed {w n : Int} {o c : List Pt} {p : Pt} (h : ingP w n o c p) : ingP w n o [] p := by
  refine ⟨⟨hv_empty h.1.1, h.1.2⟩, h.2.1, ?_⟩
  have := h.2.2
  rw [hClosed, List.length_append] at this ⊢
  simp only [List.length_nil]; omega
/-- Two points in both orders. -/
theorem law_order {w n : Int} {o c : List Pt} {p q : Pt} (h : ingP w n o c p) (hp : p.1 < n) (hqn : q.1 = n) (h1 : ingP w n (hOpen w n o p) (hClosed w n o c p) q) (h2 : ingP w n o c q) :
    ingP w n (hOpen w n o q) (hClosed w n o c q) p ∧ hOpen w n (hOpen w n o q) p = hOpen w n (hOpen w n o p) q ∧ hClosed w n (hOpen w n o q) (hClosed w n o c q) p = hClosed w n (hOpen w n o p) (hClosed w n o c p) q := by
  have ep : max n p.1 = n := by omega
  have eq : max n q.1 = n := by omega
  have hv1 := ing_hv h; rw [ep] at hv1
  have hv2 := ing_hv h2; rw [eq] at hv2
  obtain ⟨a1, a2⟩ := ing_stay h.1 (by omega)
  obtain ⟨b1, b2⟩ := ing_stay h2.1 (by omega)
  obtain ⟨c1, c2⟩ := ing_stay h1.1 (by omega)
  have hq : ingQ w n (hOpen w n o q) (hClosed w n o c q) p := ⟨hv2, h.1.2.1, h.1.2.2⟩
  obtain ⟨d1, d2⟩ := ing_stay hq (by omega)
  have e1 : hOpen w n (hOpen w n o q) p = hOpen w n (hOpen w n o p) q := by
    rw [d1, c1, a1, b1]; exact (put_comm h.1.1.2.1.asc (by omega)).symm
  have e2 : hClosed w n (hOpen w n o q) (hClosed w n o c q) p = hClosed w n (hOpen w n o p) (hClosed w n o c p) q := by
    simp only [hClosed, d2, c2, a2, b2, List.append_nil]
  exact ⟨⟨hq, by rw [e1]; exact h1.2.1, by rw [e2]; exact h1.2.2⟩, e1, e2⟩
/-- A point put behind all others. -/
theorem put_last {xs : List Pt} {p : Pt} (h : ∀ x ∈ xs, x.1 < p.1) : put xs p = xs ++ [p] := by
  have := put_mid (xs := xs) (ys := []) (p := p) h (fun y hy => by cases hy)
  simpa using this
/-! ### point by point -/
theorem filter_take {L : List Pt} {f : Pt → Bool} {k : Nat} {x : Pt} (hx : L[k]? = some x) : (L.take (k + 1)).filter f = (L.take k).filter f ++ (if f x = true then [x] else []) := by
  rw [List.take_add_one, hx]
  simp only [Option.toList, List.filter_append]
  congr 1
  by_cases h : f x = true <;> simp [h]
theorem asc_before {L : List Pt} (h : asc L) {k : Nat} {x y : Pt} (hx : L[k]? = some x) (hy : y ∈ L.take k) : y.1 < x.1 := by
  obtain ⟨i, hi⟩ := List.mem_iff_getElem?.1 hy
  rw [List.getElem?_take] at hi
  split at hi
  · rename_i hlt
    obtain ⟨h1, rfl⟩ := List.getElem?_eq_some_iff.1 hx
    obtain ⟨h2, rfl⟩ := List.getElem?_eq_some_iff.1 hi
    exact List.pairwise_iff_getElem.1 h i k h2 h1 hlt
  · cases hi
theorem ing_lo {w n : Int} {o c : List Pt} {p x : Pt} (h : ingQ w n o c p) (hx : x ∈ put o p) : n - w ≤ x.1 := by
  rcases mem_put.1 hx with rfl | ⟨h2, _⟩
  · exact h.2.2
  · exact h.1.2.2.2.2.1 x h2
def hC (w n : Int) (o c : List Pt) (p : Pt) (k : Nat) : List Pt := c ++ ((put o p).take k).filter fun x => decide (x.1 < hCut w n p)
def hO (w n : Int) (o : List Pt) (p : Pt) (k : Nat) : List Pt := ((put o p).take k).filter fun x => decide (hCut w n p ≤ x.1)
theorem hC_0 {w n : Int} {o c : List Pt} {p : Pt} : hC w n o c p 0 = c := by simp [hC]
theorem hO_0 {w n : Int} {o : List Pt} {p : Pt} : hO w n o p 0 = [] := by simp [hO]
theorem hC_end {w n : Int} {o c : List Pt} {p : Pt} {k : Nat} (hk : (put o p).length ≤ k) : hC w n o c p k = hClosed w n o c p := by rw [hC, List.take_of_length_le hk]; rfl
theorem hO_end {w n : Int} {o : List Pt} {p : Pt} {k : Nat} (hk : (put o p).length ≤ k) : hO w n o p k = hOpen w n o p := by rw [hO, List.take_of_length_le hk]; rfl
theorem hC_in {w n : Int} {o c : List Pt} {p x : Pt} {k : Nat} (h : ingQ w n o c p) (hx : (put o p)[k]? = some x) (hlt : x.1 < hCut w n p) : put (hC w n o c p k) x = hC w n o c p (k + 1) := by
  rw [hC, hC, filter_take hx, if_pos (decide_eq_true hlt), ← List.append_assoc]
  refine put_last fun y hy => ?_
  rcases List.mem_append.1 hy with hy | hy
  · have h1 := h.1.2.2.2.2.2 y hy
    have h2 := ing_lo h (List.mem_of_getElem? hx)
    omega
  · exact asc_before (asc_put h.1.2.1.asc) hx (List.mem_filter.1 hy).1
theorem hC_out {w n : Int} {o c : List Pt} {p x : Pt} {k : Nat} (hx : (put o p)[k]? = some x) (hge : ¬ x.1 < hCut w n p) : hC w n o c p k = hC w n o c p (k + 1) := by
  rw [hC, hC, filter_take hx, if_neg (by simp; omega), List.append_nil]
theorem hO_in {w n : Int} {o c : List Pt} {p x : Pt} {k : Nat} (h : ingQ w n o c p) (hx : (put o p)[k]? = some x) (hge : ¬ x.1 < hCut w n p) : put (hO w n o p k) x = hO w n o p (k + 1) := by
  rw [hO, hO, filter_take hx, if_pos (decide_eq_true (by omega))]
  exact put_last fun y hy => asc_before (asc_put h.1.2.1.asc) hx (List.mem_filter.1 hy).1
theorem hO_out {w n : Int} {o : List Pt} {p x : Pt} {k : Nat} (hx : (put o p)[k]? = some x) (hlt : x.1 < hCut w n p) : hO w n o p k = hO w n o p (k + 1) := by
  rw [hO, hO, filter_take hx, if_neg (by simp; omega), List.append_nil]
theorem hC_len {w n : Int} {o c : List Pt} {p : Pt} {k : Nat} : (hC w n o c p k).length ≤ c.length + (put o p).length := by
  rw [hC, List.length_append]
  have h1 := List.length_filter_le (fun x => decide (x.1 < hCut w n p)) ((put o p).take k)
  rw [List.length_take] at h1; omega
theorem hO_len {w n : Int} {o : List Pt} {p : Pt} {k : Nat} : (hO w n o p k).length ≤ (put o p).length := by
  have h1 := List.length_filter_le (fun x => decide (hCut w n p ≤ x.1)) ((put o p).take k)
  rw [List.length_take] at h1; rw [hO]; omega
/-- Cut at the place. -/
theorem hOpen_cut {w n : Int} {o : List Pt} {p : Pt} (h : asc o) : (put o p).drop (plc (put o p) (max n p.1 - w)) = hOpen w n o p := (plc_split (asc_put h)).2
theorem hMoved_cut {w n : Int} {o : List Pt} {p : Pt} (h : asc o) : (put o p).take (plc (put o p) (max n p.1 - w)) = hMoved w n o p := (plc_split (asc_put h)).1
/-! ### what comes out -/
open Classical in
noncomputable def ingB (w n : Int) (o c : List Pt) (p : Pt) : Bool := decide (ingP w n o c p)
theorem ingB_t {w n : Int} {o c : List Pt} {p : Pt} (h : ingP w n o c p) : ingB w n o c p = true := by simp [ingB, h]
theorem ingB_f {w n : Int} {o c : List Pt} {p : Pt} (h : ¬ ingP w n o c p) : ingB w n o c p = false := by simp [ingB, h]
theorem ingB_of {w n : Int} {o c : List Pt} {p : Pt} (h : ingB w n o c p = true) : ingP w n o c p := by simpa [ingB] using h
def iSel {α : Type} (b : Bool) (x y : α) : α := match b with | true => x | false => y
end Go.Proofs.Ytnfcmbolnljchaa

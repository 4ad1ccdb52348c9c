/-
  The greatest of the last values: the plain law.
-/
import Derived.Test.YtgakfhilconceaaDat2
namespace Go.Proofs.Ytgakfhilconceaa

/-- The value at a place. -/
def vAt (ps : List (Int × Int)) (i : Nat) : Int := (ps.getD i (0, 0)).2
theorem vAt_some {ps : List (Int × Int)} {i : Nat} {p : Int × Int} (h : ps[i]? = some p) : vAt ps i = p.2 := by simp [vAt, List.getD, h]

/-- The greatest of the value at k and of c values from lo on. -/
def rmax (ps : List (Int × Int)) (k lo : Nat) : Nat → Int
  | 0 => vAt ps k
  | c + 1 => max (rmax ps k lo c) (vAt ps (lo + c))
theorem rmax_ge {ps : List (Int × Int)} {k lo : Nat} : ∀ c, vAt ps k ≤ rmax ps k lo c ∧ ∀ i, i < c → vAt ps (lo + i) ≤ rmax ps k lo c
  | 0 => ⟨Int.le_refl _, fun i hi => by omega⟩
  | c + 1 => by
    obtain ⟨h1, h2⟩ := rmax_ge (ps := ps) (k := k) (lo := lo) c
    refine ⟨by simp only [rmax]; omega, fun i hi => ?_⟩
    simp only [rmax]
    rcases Nat.lt_or_ge i c with h | h
    · have := h2 i h; omega
    · rw [show i = c by omega]; omega
theorem rmax_in {ps : List (Int × Int)} {k lo : Nat} : ∀ c, rmax ps k lo c = vAt ps k ∨ ∃ i, i < c ∧ rmax ps k lo c = vAt ps (lo + i)
  | 0 => .inl rfl
  | c + 1 => by
    simp only [rmax]
    rcases Int.le_total (rmax ps k lo c) (vAt ps (lo + c)) with h | h
    · exact .inr ⟨c, by omega, by omega⟩
    · rcases rmax_in (ps := ps) (k := k) (lo := lo) c with h1 | ⟨i, h1, h2⟩
      · exact .inl (by omega)
      · exact .inr ⟨i, by omega, by omega⟩

/-- The greatest of at most w values that end at k. -/
def mmost (ps : List (Int × Int)) (w k : Nat) : Int := rmax ps k (k + 1 - w) (k - (k + 1 - w))
theorem mmost_ge {ps : List (Int × Int)} {w k i : Nat} (h1 : k + 1 - w ≤ i) (h2 : i ≤ k) : vAt ps i ≤ mmost ps w k := by
  obtain ⟨h3, h4⟩ := rmax_ge (ps := ps) (k := k) (lo := k + 1 - w) (k - (k + 1 - w))
  rcases Nat.lt_or_ge i k with h | h
  · have := h4 (i - (k + 1 - w)) (by omega)
    rw [show k + 1 - w + (i - (k + 1 - w)) = i by omega] at this
    exact this
  · rw [show i = k by omega]; exact h3
theorem mmost_in {ps : List (Int × Int)} {w k : Nat} (hw : 1 ≤ w) : ∃ i, k + 1 - w ≤ i ∧ i ≤ k ∧ mmost ps w k = vAt ps i := by
  rcases rmax_in (ps := ps) (k := k) (lo := k + 1 - w) (k - (k + 1 - w)) with h | ⟨i, h1, h2⟩
  · exact ⟨k, by omega, Nat.le_refl _, h⟩
  · exact ⟨k + 1 - w + i, by omega, by omega, h2⟩
theorem mmost_eq {ps : List (Int × Int)} {w k h : Nat} (hw : 1 ≤ w) (h1 : k + 1 - w ≤ h) (h2 : h ≤ k) (h3 : ∀ i, k + 1 - w ≤ i → i ≤ k → vAt ps i ≤ vAt ps h) : mmost ps w k = vAt ps h := by
  obtain ⟨i, h4, h5, h6⟩ := mmost_in (ps := ps) (k := k) hw
  have := h3 i h4 h5
  have := mmost_ge (ps := ps) (w := w) h1 h2
  omega

/-- The places that are kept: falling values, and each value in the window is at most a later kept one. -/
structure Deq (ps : List (Int × Int)) (w k : Nat) (js : List Nat) : Prop where
  inc : js.Pairwise fun a b => a < b ∧ vAt ps b < vAt ps a
  lo : ∀ j ∈ js, j < k ∧ k ≤ j + w
  dom : ∀ i, k - w ≤ i → i < k → (∃ j ∈ js, i ≤ j ∧ vAt ps i ≤ vAt ps j)
/-- The same while the last ones are taken off. -/
structure Mid (ps : List (Int × Int)) (w k : Nat) (js : List Nat) : Prop where
  inc : js.Pairwise fun a b => a < b ∧ vAt ps b < vAt ps a
  lo : ∀ j ∈ js, j < k ∧ k ≤ j + w
  dom : ∀ i, k - w ≤ i → i < k → (∃ j ∈ js, i ≤ j ∧ vAt ps i ≤ vAt ps j) ∨ vAt ps i ≤ vAt ps k
theorem Deq.mid {ps : List (Int × Int)} {w k : Nat} {js : List Nat} (h : Deq ps w k js) : Mid ps w k js := ⟨h.inc, h.lo, fun i h1 h2 => .inl (h.dom i h1 h2)⟩
theorem Deq.zero {ps : List (Int × Int)} {w : Nat} : Deq ps w 0 [] := ⟨.nil, fun j hj => (by cases hj), fun i _ h => by omega⟩
theorem Mid.pop {ps : List (Int × Int)} {w k l : Nat} {js : List Nat} (h : Mid ps w k (js ++ [l])) (hv : vAt ps l ≤ vAt ps k) : Mid ps w k js := by
  refine ⟨(List.pairwise_append.1 h.inc).1, fun j hj => h.lo j (by simp [hj]), fun i h1 h2 => ?_⟩
  rcases h.dom i h1 h2 with ⟨j, h3, h4, h5⟩ | h3
  · rcases List.mem_append.1 h3 with h6 | h6
    · exact .inl ⟨j, h6, h4, h5⟩
    · rw [List.mem_singleton] at h6; subst h6; exact .inr (by omega)
  · exact .inr h3
/-- What is kept behind 'append': the next window, but for its first place. -/
structure Nxt (ps : List (Int × Int)) (w k : Nat) (js : List Nat) : Prop where
  inc : js.Pairwise fun a b => a < b ∧ vAt ps b < vAt ps a
  lo : ∀ j ∈ js, j < k + 1 ∧ k ≤ j + w
  dom : ∀ i, k + 1 - w ≤ i → i < k + 1 → (∃ j ∈ js, i ≤ j ∧ vAt ps i ≤ vAt ps j)
theorem Mid.push {ps : List (Int × Int)} {w k : Nat} {js : List Nat} (h : Mid ps w k js) (hv : ∀ j ∈ js, vAt ps k < vAt ps j) : Nxt ps w k (js ++ [k]) := by
  refine ⟨List.pairwise_append.2 ⟨h.inc, List.pairwise_singleton _ _, fun a ha b hb => ?_⟩, fun j hj => ?_, fun i h1 h2 => ?_⟩
  · rw [List.mem_singleton] at hb; subst hb; exact ⟨(h.lo a ha).1, hv a ha⟩
  · rcases List.mem_append.1 hj with h6 | h6
    · have := h.lo j h6; omega
    · rw [List.mem_singleton] at h6; omega
  · rcases Nat.lt_or_ge i k with h3 | h3
    · rcases h.dom i (by omega) h3 with ⟨j, h4, h5, h6⟩ | h4
      · exact ⟨j, by simp [h4], h5, h6⟩
      · exact ⟨k, by simp, by omega, h4⟩
    · exact ⟨k, by simp, by omega, by rw [show i = k by omega]; exact Int.le_refl _⟩
theorem Nxt.stay {ps : List (Int × Int)} {w k h : Nat} {js : List Nat} (hd : Nxt ps w k (h :: js)) (hh : k < h + w) : Deq ps w (k + 1) (h :: js) := by
  refine ⟨hd.inc, fun j hj => ?_, hd.dom⟩
  have := hd.lo j hj
  rcases List.mem_cons.1 hj with rfl | h1
  · omega
  · have := (List.pairwise_cons.1 hd.inc).1 j h1; omega
theorem Nxt.drop {ps : List (Int × Int)} {w k h : Nat} {js : List Nat} (hd : Nxt ps w k (h :: js)) (hh : h + w ≤ k) : Deq ps w (k + 1) js := by
  have h0 := hd.lo h (by simp)
  refine ⟨(List.pairwise_cons.1 hd.inc).2, fun j hj => ?_, fun i h1 h2 => ?_⟩
  · have := hd.lo j (by simp [hj])
    have := (List.pairwise_cons.1 hd.inc).1 j hj
    omega
  · obtain ⟨j, h3, h4, h5⟩ := hd.dom i h1 h2
    rcases List.mem_cons.1 h3 with rfl | h6
    · omega
    · exact ⟨j, h6, h4, h5⟩
/-- The first kept place has the greatest value. -/
theorem Deq.head {ps : List (Int × Int)} {w k h : Nat} {js : List Nat} (hw : 1 ≤ w) (hd : Deq ps w (k + 1) (h :: js)) : mmost ps w k = vAt ps h := by
  have h0 := hd.lo h (by simp)
  refine mmost_eq hw (by omega) (by omega) fun i h1 h2 => ?_
  obtain ⟨j, h3, h4, h5⟩ := hd.dom i h1 (by omega)
  rcases List.mem_cons.1 h3 with rfl | h6
  · exact h5
  · have := (List.pairwise_cons.1 hd.inc).1 j h6; omega
theorem Deq.ne {ps : List (Int × Int)} {w k : Nat} {js : List Nat} (hw : 1 ≤ w) (hd : Deq ps w (k + 1) js) : js ≠ [] := by
  rintro rfl
  obtain ⟨j, h, _⟩ := hd.dom k (by omega) (by omega)
  cases h
theorem last_least {ps : List (Int × Int)} {js : List Nat} {l : Nat} (h : (js ++ [l]).Pairwise fun a b => a < b ∧ vAt ps b < vAt ps a) {v : Int} (hv : v < vAt ps l) : ∀ j ∈ js ++ [l], v < vAt ps j := fun j hj => by
  rcases List.mem_append.1 hj with h1 | h1
  · have := (List.pairwise_append.1 h).2.2 j h1 l (by simp); omega
  · rw [List.mem_singleton] at h1; subst h1; exact hv

theorem inc_len {k : Nat} : ∀ {js : List Nat} {lo : Nat}, js.Pairwise (· < ·) → (∀ j ∈ js, lo ≤ j ∧ j < k) → js.length ≤ k - lo
  | [], _, _, _ => Nat.zero_le _
  | j :: js, lo, h, hj => by
    have h1 := hj j (by simp)
    have h2 := (List.pairwise_cons.1 h)
    have h3 := inc_len (k := k) (lo := j + 1) h2.2 fun i hi => ⟨h2.1 i hi, (hj i (by simp [hi])).2⟩
    rw [List.length_cons]; omega
theorem Mid.len {ps : List (Int × Int)} {w k : Nat} {js : List Nat} (h : Mid ps w k js) : js.length ≤ k := by
  have := inc_len (k := k) (lo := 0) (h.inc.imp fun h => h.1) fun j hj => ⟨Nat.zero_le _, (h.lo j hj).1⟩
  omega
theorem Deq.len {ps : List (Int × Int)} {w k : Nat} {js : List Nat} (h : Deq ps w k js) : js.length ≤ k := h.mid.len

def mmostTo (ps : List (Int × Int)) (w k : Nat) : List Int := (List.range k).map (mmost ps w)
theorem mmostTo_succ {ps : List (Int × Int)} {w k : Nat} : mmostTo ps w (k + 1) = mmostTo ps w k ++ [mmost ps w k] := by simp [mmostTo, List.range_succ]
theorem mmostTo_len {ps : List (Int × Int)} {w k : Nat} : (mmostTo ps w k).length = k := by simp [mmostTo]
end Go.Proofs.Ytgakfhilconceaa

/-
  Smooth values and counts: the plain law.
-/
import Derived.Test.YtgakfhilconceaaPS
namespace Go.Proofs.Ytgakfhilconceaa
set_option linter.unusedVariables false

theorem fdiv_impl {n b : Int} (hb : 0 < b) : (if n < 0 ∧ n.tmod b ≠ 0 then n.tdiv b - 1 else n.tdiv b) = n / b := by
  have h1 := Int.mul_tdiv_add_tmod n b
  have h2 := Int.mul_ediv_add_emod n b
  have h3 := Int.emod_nonneg n (b := b) (by omega)
  have h4 := Int.emod_lt_of_pos n hb
  rw [Int.tdiv_eq_ediv]
  have hs : b.sign = 1 := Int.sign_eq_one_of_pos hb
  by_cases hn : 0 ≤ n
  · rw [if_neg (by omega), if_pos (.inl hn), Int.add_zero]
  · by_cases hd : b ∣ n
    · have : n.tmod b = 0 := Int.tmod_eq_zero_of_dvd hd
      rw [if_neg (by omega), if_pos (.inr hd), Int.add_zero]
    · have : n.tmod b ≠ 0 := fun h => hd (Int.dvd_of_tmod_eq_zero h)
      rw [if_pos ⟨by omega, this⟩, if_neg (by simp; exact ⟨by omega, hd⟩), hs]; omega
theorem fdiv_spec {n b : Int} (hb : 0 < b) : (if n < n.tdiv b * b then n.tdiv b - 1 else n.tdiv b) = n / b := by
  rw [Int.tdiv_eq_ediv]
  have hs : b.sign = 1 := Int.sign_eq_one_of_pos hb
  have h2 := Int.mul_ediv_add_emod n b
  have h3 := Int.emod_nonneg n (b := b) (by omega)
  have h4 := Int.emod_lt_of_pos n hb
  rw [hs]
  have hc := Int.mul_comm (n / b) b
  split
  · rename_i h
    rw [Int.add_zero] at *
    rw [if_neg (by omega)]
  · rename_i h
    rw [Int.add_mul, Int.one_mul, if_pos (by omega)]; omega

/-- One step. -/
def smo (w s v : Int) : Int := s + (v - s) * w / 100
theorem smo_between {w s v : Int} (hw : 1 ≤ w ∧ w ≤ 100) : min s v ≤ smo w s v ∧ smo w s v ≤ max s v := by
  unfold smo
  rcases Int.le_total s v with h | h
  · have h1 : 0 ≤ (v - s) * w := Int.mul_nonneg (by omega) (by omega)
    have h2 : (v - s) * w ≤ (v - s) * 100 := Int.mul_le_mul_of_nonneg_left hw.2 (by omega)
    omega
  · have h1 : (s - v) * w ≤ (s - v) * 100 := Int.mul_le_mul_of_nonneg_left hw.2 (by omega)
    have h2 : 0 ≤ (s - v) * w := Int.mul_nonneg (by omega) (by omega)
    have h3 : (v - s) * w = -((s - v) * w) := by rw [← Int.neg_mul]; congr 1; omega
    rw [h3]
    omega
/-- The smooth value at a place. -/
def sval (ps : List Pt) (w : Int) : Nat → Int
  | 0 => (ps.getD 0 (0, 0)).2 * 100
  | k + 1 => smo w (sval ps w k) ((ps.getD (k + 1) (0, 0)).2 * 100)
def svals (ps : List Pt) (w : Int) (k : Nat) : List Int := (List.range k).map (sval ps w)
theorem svals_succ {ps : List Pt} {w : Int} {k : Nat} : svals ps w (k + 1) = svals ps w k ++ [sval ps w k] := by simp [svals, List.range_succ]
theorem svals_len {ps : List Pt} {w : Int} {k : Nat} : (svals ps w k).length = k := by simp [svals]
theorem svals_at {ps : List Pt} {w : Int} {k j : Nat} (h : j < k) : (svals ps w k)[j]? = some (sval ps w j) := by simp [svals, h]
theorem getD_pt {ps : List Pt} {k : Nat} {p : Pt} (h : ps[k]? = some p) : ps.getD k (0, 0) = p := by simp [List.getD, h]
theorem sval_bound {ps : List Pt} (h : ∀ p ∈ ps, okPt p) {w : Int} (hw : 1 ≤ w ∧ w ≤ 100) : ∀ k, k < ps.length → -100000 ≤ sval ps w k ∧ sval ps w k ≤ 100000
  | 0, hk => by
    obtain ⟨_, _, h1, h2⟩ := h _ (List.getElem_mem hk)
    rw [sval, getD_pt (List.getElem?_eq_getElem hk)]; omega
  | k + 1, hk => by
    have h3 := sval_bound h hw k (by omega)
    obtain ⟨_, _, h1, h2⟩ := h _ (List.getElem_mem hk)
    rw [sval, getD_pt (List.getElem?_eq_getElem hk)]
    have := smo_between (s := sval ps w k) (v := ps[k + 1].2 * 100) hw
    omega
theorem sval_all {ps : List Pt} {k : Nat} {p : Pt} (h : ps[k]? = some p) : sval ps 100 k = p.2 * 100 := by
  cases k with
  | zero => rw [sval, getD_pt h]
  | succ k => rw [sval, getD_pt h, smo]; omega
theorem sval_flat {ps : List Pt} {w v : Int} (h : ∀ p ∈ ps, p.2 = v) : ∀ k, k < ps.length → sval ps w k = v * 100
  | 0, hk => by rw [sval, getD_pt (List.getElem?_eq_getElem hk), h _ (List.getElem_mem hk)]
  | k + 1, hk => by rw [sval, getD_pt (List.getElem?_eq_getElem hk), h _ (List.getElem_mem hk), sval_flat h k (by omega), smo]; simp

/-! ### counts -/
def cnt (ps : List Pt) (b : Int) : Nat := ps.countP fun p => decide (p.2 ≤ b)
theorem cnt_le {ps : List Pt} {b : Int} : cnt ps b ≤ ps.length := List.countP_le_length
theorem cnt_take {ps : List Pt} {b : Int} {k : Nat} {p : Pt} (h : ps[k]? = some p) : cnt (ps.take (k + 1)) b = cnt (ps.take k) b + if p.2 ≤ b then 1 else 0 := by
  rw [List.take_add_one, h]
  simp [cnt, List.countP_append, List.countP_cons]
theorem cnt_mono {ps : List Pt} {a b : Int} (h : a ≤ b) : cnt ps a ≤ cnt ps b := List.countP_mono_left fun x _ hx => by simp at hx ⊢; omega
theorem cnt_split {ps : List Pt} {b : Int} {k : Nat} : cnt (ps.take k) b + cnt (ps.drop k) b = cnt ps b := by
  unfold cnt; rw [← List.countP_append, List.take_append_drop]
theorem cnt_all {ps : List Pt} {b : Int} (h : ∀ p ∈ ps, p.2 ≤ b) : cnt ps b = ps.length := List.countP_eq_length.2 fun p hp => by simpa using h p hp
theorem cnt_none {ps : List Pt} {b : Int} (h : ∀ p ∈ ps, b < p.2) : cnt ps b = 0 := List.countP_eq_zero.2 fun p hp => by simpa using h p hp
def cnts (ps : List Pt) (bs : List Int) : List Int := bs.map fun b => (cnt ps b : Int)
theorem cnts_app {ps : List Pt} {bs : List Int} {b : Int} : cnts ps (bs ++ [b]) = cnts ps bs ++ [(cnt ps b : Int)] := by simp [cnts]
theorem cnts_len {ps : List Pt} {bs : List Int} : (cnts ps bs).length = bs.length := by simp [cnts]
theorem cnts_at {ps : List Pt} {bs : List Int} {k : Nat} {b : Int} (h : bs[k]? = some b) : (cnts ps bs)[k]? = some (cnt ps b : Int) := by simp [cnts, h]
theorem cnts_take {ps : List Pt} {bs : List Int} {k : Nat} {b : Int} (h : bs[k]? = some b) : cnts ps (bs.take (k + 1)) = cnts ps (bs.take k) ++ [(cnt ps b : Int)] := by
  rw [List.take_add_one, h]; exact cnts_app
end Go.Proofs.Ytgakfhilconceaa

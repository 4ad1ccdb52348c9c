/-
  Journals: the plain law.
-/
import Derived.Test.YtjhokokkablcpaaPS
namespace Go.Proofs.Ytjhokokkablcpaa
set_option linter.unusedVariables false
set_option linter.unusedSimpArgs false

abbrev By := List UInt8
/-! ### numbers of seven bits a byte -/
def pv (n : Nat) : By := if n < 128 then [UInt8.ofNat n] else UInt8.ofNat (n % 128 + 128) :: pv (n / 128)
termination_by n
decreasing_by omega
def zz (v : Int) : Nat := if 0 ≤ v then (2 * v).toNat else (-2 * v - 1).toNat
def uz (z : Nat) : Int := if z % 2 = 0 then ((z / 2 : Nat) : Int) else -(((z + 1) / 2 : Nat) : Int)
theorem uz_zz (v : Int) : uz (zz v) = v := by
  unfold uz zz
  split <;> split <;> omega
theorem zz_uz (z : Nat) : zz (uz z) = z := by
  unfold uz zz
  split <;> split <;> omega
theorem u8_of {n : Nat} (h : n < 256) : (UInt8.ofNat n).toNat = n := by
  rw [UInt8.toNat_ofNat']; omega
theorem u8_eq {a : UInt8} {n : Nat} (h : a.toNat = n) : UInt8.ofNat n = a := by
  subst h; exact UInt8.ofNat_toNat
theorem pv_1 {n : Nat} (h : n < 128) : pv n = [UInt8.ofNat n] := by rw [pv, if_pos h]
theorem pv_s {n : Nat} (h : 128 ≤ n) : pv n = UInt8.ofNat (n % 128 + 128) :: pv (n / 128) := by rw [pv, if_neg (by omega)]
theorem pv_len1 (n : Nat) : 1 ≤ (pv n).length := by
  rcases Nat.lt_or_ge n 128 with h | h
  · rw [pv_1 h]; simp
  · rw [pv_s h]; simp
theorem pv_len3 {n : Nat} (h : n ≤ 200000) : (pv n).length ≤ 3 := by
  rcases Nat.lt_or_ge n 128 with h1 | h1
  · rw [pv_1 h1]; simp
  rw [pv_s h1]
  rcases Nat.lt_or_ge (n / 128) 128 with h2 | h2
  · rw [pv_1 h2]; simp
  rw [pv_s h2, pv_1 (by omega)]; simp
theorem pv_len2 {n : Nat} (h : n < 16384) : (pv n).length ≤ 2 := by
  rcases Nat.lt_or_ge n 128 with h1 | h1
  · rw [pv_1 h1]; simp
  rw [pv_s h1, pv_1 (by omega)]; simp
/-- The number at the beginning of bytes. -/
def gv : By → Option (Nat × Nat)
  | [] => none
  | a :: r => if a.toNat < 128 then some (a.toNat, 1) else
    match r with
    | [] => none
    | c :: r => if c.toNat < 128 then (if c.toNat = 0 then none else some (a.toNat % 128 + 128 * c.toNat, 2)) else
      match r with
      | [] => none
      | d :: _ => if d.toNat < 128 then (if d.toNat = 0 ∨ 200000 < a.toNat % 128 + 128 * (c.toNat % 128) + 16384 * d.toNat then none else some (a.toNat % 128 + 128 * (c.toNat % 128) + 16384 * d.toNat, 3)) else none
theorem gv_c (a : UInt8) (r : By) : gv (a :: r) = if a.toNat < 128 then some (a.toNat, 1) else
    match r with
    | [] => none
    | c :: r => if c.toNat < 128 then (if c.toNat = 0 then none else some (a.toNat % 128 + 128 * c.toNat, 2)) else
      match r with
      | [] => none
      | d :: _ => if d.toNat < 128 then (if d.toNat = 0 ∨ 200000 < a.toNat % 128 + 128 * (c.toNat % 128) + 16384 * d.toNat then none else some (a.toNat % 128 + 128 * (c.toNat % 128) + 16384 * d.toNat, 3)) else none := rfl
theorem gv_pv {n : Nat} (h : n ≤ 200000) (y : By) : gv (pv n ++ y) = some (n, (pv n).length) := by
  rcases Nat.lt_or_ge n 128 with h1 | h1
  · rw [pv_1 h1, List.cons_append, gv_c, u8_of (by omega), if_pos h1]; rfl
  rw [pv_s h1]
  rcases Nat.lt_or_ge (n / 128) 128 with h2 | h2
  · rw [pv_1 h2, List.cons_append, List.cons_append, gv_c, u8_of (by omega), if_neg (by omega)]
    try dsimp only
    rw [u8_of (by omega), if_pos h2, if_neg (by omega)]
    simp; omega
  rw [pv_s h2, pv_1 (by omega), List.cons_append, List.cons_append, List.cons_append, gv_c, u8_of (by omega), if_neg (by omega)]
  try dsimp only
  rw [u8_of (by omega), if_neg (by omega)]
  try dsimp only
  rw [u8_of (by omega), if_pos (by omega), if_neg (by omega)]
  simp; omega
theorem gv_some {x : By} {t k : Nat} (h : gv x = some (t, k)) : t ≤ 200000 ∧ k = (pv t).length ∧ ∃ y, x = pv t ++ y := by
  match x, h with
  | [], h => simp [gv] at h
  | a :: r, h =>
    have ha := a.toNat_lt
    rw [gv_c] at h
    split at h
    · rename_i h1
      cases h
      exact ⟨by omega, by rw [pv_1 h1]; rfl, r, by rw [pv_1 h1, u8_eq rfl]; rfl⟩
    · rename_i h1
      match r, h with
      | [], h => cases h
      | c :: r, h =>
        have hc := c.toNat_lt
        dsimp only at h
        split at h
        · rename_i h2
          split at h
          · cases h
          · rename_i h3
            cases h
            have e1 : pv (a.toNat % 128 + 128 * c.toNat) = [a, c] := by
              rw [pv_s (by omega), pv_1 (by omega), u8_eq (a := a) (by omega), u8_eq (a := c) (by omega)]
            exact ⟨by omega, by rw [e1]; rfl, r, by rw [e1]; rfl⟩
        · rename_i h2
          match r, h with
          | [], h => cases h
          | d :: r, h =>
            have hd := d.toNat_lt
            dsimp only at h
            split at h
            · rename_i h3
              split at h
              · cases h
              · rename_i h4
                cases h
                have e1 : pv (a.toNat % 128 + 128 * (c.toNat % 128) + 16384 * d.toNat) = [a, c, d] := by
                  rw [pv_s (by omega), pv_s (by omega), pv_1 (by omega), u8_eq (a := a) (by omega), u8_eq (a := c) (by omega), u8_eq (a := d) (by omega)]
                exact ⟨by omega, by rw [e1]; rfl, r, by rw [e1]; rfl⟩
            · cases h
/-- How the program reads it, byte by byte. -/
def gvI (n u i : Nat) : By → Option (Nat × Nat)
  | [] => none
  | c :: r => if 200000 < n + c.toNat % 128 * u then none else if c.toNat < 128 then (if c.toNat = 0 ∧ 0 < i then none else some (n + c.toNat % 128 * u, i + 1)) else if i = 3 then none else gvI (n + c.toNat % 128 * u) (u * 128) (i + 1) r
theorem gvI_gv (x : By) : gvI 0 1 0 x = gv x := by
  match x with
  | [] => rfl
  | a :: r =>
    have ha := a.toNat_lt
    rw [gvI, gv_c, if_neg (by omega)]
    split
    · rename_i h1
      rw [if_neg (by omega)]
      simp; omega
    · rename_i h1
      rw [if_neg (by omega)]
      match r with
      | [] => rfl
      | c :: r =>
        have hc := c.toNat_lt
        rw [gvI, if_neg (by omega)]
        try dsimp only
        split
        · rename_i h2
          by_cases h3 : c.toNat = 0
          · rw [if_pos ⟨h3, by omega⟩, if_pos h3]
          · rw [if_neg (by omega), if_neg h3]
            simp; omega
        · rename_i h2
          rw [if_neg (by omega)]
          match r with
          | [] => rfl
          | d :: r =>
            have hd := d.toNat_lt
            rw [gvI]
            try dsimp only
            by_cases h4 : d.toNat < 128
            · simp only [h4, if_true]
              by_cases h5 : 200000 < a.toNat % 128 + 128 * (c.toNat % 128) + 16384 * d.toNat
              · rw [if_pos (by omega), if_pos (.inr h5)]
              · rw [if_neg (by omega)]
                by_cases h6 : d.toNat = 0
                · rw [if_pos ⟨h6, by omega⟩, if_pos (.inl h6)]
                · rw [if_neg (by omega), if_neg (by omega)]
                  simp; omega
            · simp only [h4, if_false]
              by_cases h5 : 200000 < 0 + a.toNat % 128 * 1 + c.toNat % 128 * (1 * 128) + d.toNat % 128 * (1 * 128 * 128)
              · rw [if_pos (by omega)]
              · rw [if_neg (by omega), if_neg (by omega)]
                match r with
                | [] => rfl
                | e :: r =>
                  have he := e.toNat_lt
                  rw [gvI]
                  by_cases h6 : 200000 < 0 + a.toNat % 128 * 1 + c.toNat % 128 * (1 * 128) + d.toNat % 128 * (1 * 128 * 128) + e.toNat % 128 * (1 * 128 * 128 * 128)
                  · rw [if_pos (by omega)]
                  · rw [if_neg (by omega)]
                    split
                    · rw [if_pos (by omega)]
                    · rw [if_pos (by omega)]
/-- How the reference reads it. -/
def gvS (n u i : Nat) : By → Option (Nat × Nat)
  | [] => none
  | c :: r => if 3 ≤ i then none else if c.toNat < 128 then (if 200000 < n + u * (c.toNat % 128) ∨ (0 < i ∧ c.toNat = 0) then none else some (n + u * (c.toNat % 128), i + 1)) else gvS (n + u * (c.toNat % 128)) (u * 128) (i + 1) r
theorem gvS_gv (x : By) : gvS 0 1 0 x = gv x := by
  match x with
  | [] => rfl
  | a :: r =>
    have ha := a.toNat_lt
    rw [gvS, gv_c, if_neg (by omega)]
    split
    · rename_i h1
      rw [if_neg (by omega)]
      simp; omega
    · rename_i h1
      match r with
      | [] => rfl
      | c :: r =>
        have hc := c.toNat_lt
        rw [gvS, if_neg (by omega)]
        try dsimp only
        split
        · rename_i h2
          by_cases h3 : c.toNat = 0
          · rw [if_pos (.inr ⟨by omega, h3⟩), if_pos h3]
          · rw [if_neg (by omega), if_neg h3]
            simp; omega
        · rename_i h2
          match r with
          | [] => rfl
          | d :: r =>
            have hd := d.toNat_lt
            rw [gvS, if_neg (by omega)]
            try dsimp only
            split
            · rename_i h4
              by_cases h5 : d.toNat = 0 ∨ 200000 < a.toNat % 128 + 128 * (c.toNat % 128) + 16384 * d.toNat
              · rw [if_pos (by omega), if_pos h5]
              · rw [if_neg (by omega), if_neg h5]
                simp; omega
            · match r with
              | [] => rfl
              | e :: r => rw [gvS, if_pos (by omega)]
theorem gvI_c (n u i : Nat) (c : UInt8) (r : By) : gvI n u i (c :: r) = if 200000 < n + c.toNat % 128 * u then none else if c.toNat < 128 then (if c.toNat = 0 ∧ 0 < i then none else some (n + c.toNat % 128 * u, i + 1)) else if i = 3 then none else gvI (n + c.toNat % 128 * u) (u * 128) (i + 1) r := rfl
theorem gvS_c (n u i : Nat) (c : UInt8) (r : By) : gvS n u i (c :: r) = if 3 ≤ i then none else if c.toNat < 128 then (if 200000 < n + u * (c.toNat % 128) ∨ (0 < i ∧ c.toNat = 0) then none else some (n + u * (c.toNat % 128), i + 1)) else gvS (n + u * (c.toNat % 128)) (u * 128) (i + 1) r := rfl
theorem drop_c {b : By} {i : Nat} {c : UInt8} (h : b[i]? = some c) : b.drop i = c :: b.drop (i + 1) := by
  obtain ⟨hlt, hc⟩ := List.getElem?_eq_some_iff.1 h
  rw [List.drop_eq_getElem_cons hlt, hc]
/-- What is told of it. -/
def gvN (b : By) : Int := match gv b with | some p => (p.1 : Int) | none => 0
def gvK (b : By) : Int := match gv b with | some p => (p.2 : Int) | none => 0
theorem gvN_s {b : By} {n k : Nat} (h : gv b = some (n, k)) : gvN b = (n : Int) ∧ gvK b = (k : Int) ∧ (gv b).isSome = true := by simp [gvN, gvK, h]
theorem gvN_n {b : By} (h : gv b = none) : gvN b = 0 ∧ gvK b = 0 ∧ (gv b).isSome = false := by simp [gvN, gvK, h]
/-! ### entries -/
abbrev Rec := Int × Int × Int
def okRec (r : Rec) : Prop := 0 ≤ r.1 ∧ r.1 < 8 ∧ okPt r.2
def told (r : Rec) : By := UInt8.ofNat r.1.toNat :: (pv r.2.1.toNat ++ pv (zz r.2.2))
def sumB (b : By) : Nat := b.foldl (fun s c => (33 * s + c.toNat) % 251) 7
theorem sumB_take {b : By} {k : Nat} {c : UInt8} (h : b[k]? = some c) : sumB (b.take (k + 1)) = (33 * sumB (b.take k) + c.toNat) % 251 := by
  rw [List.take_add_one, h]
  simp [sumB]
theorem sumB_lt (b : By) : sumB b < 251 := by
  unfold sumB
  suffices h : ∀ (b : By) (s : Nat), s < 251 → b.foldl (fun s c => (33 * s + c.toNat) % 251) s < 251 from h b 7 (by omega)
  intro b
  induction b with
  | nil => intro s hs; exact hs
  | cons x xs ih => intro s hs; exact ih _ (Nat.mod_lt _ (by omega))
def ent (r : Rec) : By := UInt8.ofNat (told r).length :: (told r ++ [UInt8.ofNat (sumB (told r))])
theorem zz_le {r : Rec} (h : okRec r) : zz r.2.2 ≤ 2000 := by
  have := h.2.2.2.2
  unfold zz; split <;> omega
theorem t_le {r : Rec} (h : okRec r) : r.2.1.toNat ≤ 1000 := by
  have := h.2.2.2.1
  omega
theorem told_len {r : Rec} (h : okRec r) : 3 ≤ (told r).length ∧ (told r).length ≤ 5 := by
  have h1 := pv_len1 r.2.1.toNat
  have h2 := pv_len1 (zz r.2.2)
  have h3 := pv_len2 (n := r.2.1.toNat) (by have := t_le h; omega)
  have h4 := pv_len2 (n := zz r.2.2) (by have := zz_le h; omega)
  simp only [told, List.length_cons, List.length_append]
  omega
theorem ent_len {r : Rec} : (ent r).length = (told r).length + 2 := by simp [ent]
/-- What stands at the beginning. -/
def prs (b : By) : Option Rec :=
  if b.length < 2 then none else
    match gv (b.drop 2) with
    | none => none
    | some (t, k) => match gv (b.drop (2 + k)) with
      | none => none
      | some (z, _) => some (((b.getD 1 0).toNat : Int), (t : Int), uz z)
theorem prs_ent {r : Rec} (h : okRec r) (y : By) : prs (ent r ++ y) = some r := by
  have h1 := t_le h
  have h2 := zz_le h
  have e1 : (ent r ++ y).drop 2 = pv r.2.1.toNat ++ (pv (zz r.2.2) ++ (UInt8.ofNat (sumB (told r)) :: y)) := by simp [ent, told]
  have e2 : (ent r ++ y).drop (2 + (pv r.2.1.toNat).length) = pv (zz r.2.2) ++ (UInt8.ofNat (sumB (told r)) :: y) := by
    rw [← List.drop_drop, e1, List.drop_left]
  rw [prs, if_neg (by rw [List.length_append, ent_len]; omega), e1, gv_pv (by omega)]
  try dsimp only
  rw [e2, gv_pv (by omega)]
  try dsimp only
  have e3 : (ent r ++ y).getD 1 0 = UInt8.ofNat r.1.toNat := by simp [ent, told]
  have h0 := h.1
  have h3 := h.2.1
  have h4 := h.2.2.1
  rw [e3, uz_zz, u8_of (by omega)]
  congr 1
  refine Prod.ext ?_ (Prod.ext ?_ rfl)
  · show ((r.1.toNat : Nat) : Int) = r.1; omega
  · show ((r.2.1.toNat : Nat) : Int) = r.2.1; omega
open Classical in
/-- The entry at the beginning. -/
noncomputable def rdE (b : By) : Option Rec :=
  match prs b with
  | none => none
  | some r => if okRec r ∧ ent r <+: b then some r else none
theorem rdE_iff {b : By} {r : Rec} : rdE b = some r ↔ okRec r ∧ ent r <+: b := by
  constructor
  · intro h
    unfold rdE at h
    split at h
    · cases h
    · split at h
      · rename_i h1; cases h; exact h1
      · cases h
  · rintro ⟨h1, y, rfl⟩
    unfold rdE
    rw [prs_ent h1]
    try dsimp only
    rw [if_pos ⟨h1, List.prefix_append _ _⟩]
theorem rdE_none {b : By} (h : ∀ r, okRec r → ¬ ent r <+: b) : rdE b = none := by
  cases e : rdE b with
  | none => rfl
  | some r => exact absurd (rdE_iff.1 e).2 (h r (rdE_iff.1 e).1)
theorem rdE_nil : rdE [] = none := rdE_none fun r hr h => by
  have := h.length_le
  rw [ent_len] at this; simp at this
/-! ### journals -/
def ents (l : List Rec) : By := l.flatMap ent
theorem ents_snoc {l : List Rec} {r : Rec} : ents (l ++ [r]) = ents l ++ ent r := by simp [ents]
noncomputable def rdF : Nat → By → List Rec
  | 0, _ => []
  | f + 1, b => match rdE b with
    | none => []
    | some r => r :: rdF f (b.drop (ent r).length)
noncomputable def rdJ (b : By) : List Rec := rdF b.length b
theorem rdF_any : ∀ (f g : Nat) (b : By), b.length ≤ f → b.length ≤ g → rdF f b = rdF g b
  | 0, 0, b, _, _ => rfl
  | 0, g + 1, b, h, _ => by
    obtain rfl : b = [] := List.eq_nil_of_length_eq_zero (by omega)
    rw [rdF, rdF, rdE_nil]
  | f + 1, 0, b, _, h => by
    obtain rfl : b = [] := List.eq_nil_of_length_eq_zero (by omega)
    rw [rdF, rdF, rdE_nil]
  | f + 1, g + 1, b, h, h2 => by
    rw [rdF, rdF]
    cases e : rdE b with
    | none => rfl
    | some r =>
      try dsimp only
      have hl : (ent r).length = (told r).length + 2 := ent_len
      rw [rdF_any f g _ (by rw [List.length_drop]; omega) (by rw [List.length_drop]; omega)]
theorem rdJ_step {b : By} {r : Rec} (h : rdE b = some r) : rdJ b = r :: rdJ (b.drop (ent r).length) := by
  have hl : (ent r).length = (told r).length + 2 := ent_len
  have hp := (rdE_iff.1 h).2.length_le
  obtain ⟨f, hf⟩ : ∃ f, b.length = f + 1 := ⟨b.length - 1, by omega⟩
  rw [rdJ, hf, rdF, h]
  try dsimp only
  rw [rdJ, rdF_any f _ _ (by rw [List.length_drop]; omega) (Nat.le_refl _)]
theorem rdJ_stop {b : By} (h : rdE b = none) : rdJ b = [] := by
  rw [rdJ]
  cases b with
  | nil => rfl
  | cons x xs => rw [List.length_cons, rdF, h]
/-- Where the reading stands after l. -/
def At (b : By) (l : List Rec) : Prop := (∀ r ∈ l, okRec r) ∧ ents l <+: b ∧ True
theorem rdJ_ents : ∀ {l : List Rec} {y : By}, (∀ r ∈ l, okRec r) → rdJ (ents l ++ y) = l ++ rdJ y
  | [], y, _ => rfl
  | r :: l, y, h => by
    have e : ents (r :: l) ++ y = ent r ++ (ents l ++ y) := by simp [ents]
    rw [e, rdJ_step (rdE_iff.2 ⟨h r (.head _), List.prefix_append _ _⟩), List.drop_left, rdJ_ents (fun x hx => h x (.tail _ hx)), List.cons_append]
theorem rdJ_whole {l : List Rec} (h : ∀ r ∈ l, okRec r) : rdJ (ents l) = l := by
  have := rdJ_ents (y := []) h
  rw [List.append_nil, rdJ_stop rdE_nil, List.append_nil] at this
  exact this
theorem rdJ_ok : ∀ (n : Nat) {b : By}, b.length ≤ n → (∀ r ∈ rdJ b, okRec r) ∧ ents (rdJ b) <+: b
  | n, b, hn => by
    cases e : rdE b with
    | none => rw [rdJ_stop e]; exact ⟨fun r hr => (by cases hr), List.nil_prefix⟩
    | some r =>
      obtain ⟨h1, y, rfl⟩ := rdE_iff.1 e
      rw [rdJ_step e, List.drop_left]
      have hl : (ent r).length = (told r).length + 2 := ent_len
      match n with
      | 0 => rw [List.length_append] at hn; omega
      | n + 1 =>
        obtain ⟨h2, h3⟩ := rdJ_ok n (b := y) (by rw [List.length_append] at hn; omega)
        refine ⟨fun x hx => ?_, ?_⟩
        · rcases List.mem_cons.1 hx with rfl | hx
          · exact h1
          · exact h2 x hx
        · show ents (r :: rdJ y) <+: ent r ++ y
          rw [show ents (r :: rdJ y) = ent r ++ ents (rdJ y) by simp [ents]]
          exact (List.prefix_append_right_inj _).2 h3
theorem rdJ_okr {b : By} : ∀ r ∈ rdJ b, okRec r := (rdJ_ok b.length (Nat.le_refl _)).1
theorem rdJ_pre {b : By} : ents (rdJ b) <+: b := (rdJ_ok b.length (Nat.le_refl _)).2
/-! ### replayed -/
def pts (l : List Rec) (s : Int) : List Pt := (l.filter fun r => decide (r.1 = s)).map (·.2)
theorem pts_snoc_t {l : List Rec} {s : Int} {r : Rec} (h : r.1 = s) : pts (l ++ [r]) s = pts l s ++ [r.2] := by simp [pts, h]
theorem pts_snoc_f {l : List Rec} {s : Int} {r : Rec} (h : r.1 ≠ s) : pts (l ++ [r]) s = pts l s := by simp [pts, h]
theorem pts_ok {l : List Rec} {s : Int} (h : ∀ r ∈ l, okRec r) : ∀ p ∈ pts l s, okPt p := by
  intro p hp
  simp only [pts, List.mem_map, List.mem_filter] at hp
  obtain ⟨r, ⟨h1, _⟩, rfl⟩ := hp
  exact (h r h1).2.2
theorem put_ge {ps : List Pt} {p : Pt} (h : asc ps) : ps.length ≤ (put ps p).length := by
  have hle := plc_le (ps := ps) (t := p.1)
  have := put_cut (p := p) h (b := if (ps[plc ps p.1]?).any (fun q => decide (q.1 = p.1)) then plc ps p.1 + 1 else plc ps p.1) rfl
  rw [← this, List.length_append, List.length_cons, List.length_take, List.length_drop]
  split <;> omega
theorem puts_ge : ∀ {b a : List Pt}, asc a → a.length ≤ (puts a b).length
  | [], a, _ => Nat.le_refl _
  | p :: b, a, h => Nat.le_trans (put_ge h) (puts_ge (b := b) (asc_put h))
def rpl (l : List Rec) (s : Int) : List Pt := puts [] (pts l s)
theorem rpl_asc {l : List Rec} {s : Int} : asc (rpl l s) := asc_puts asc_nil
theorem rpl_ok {l : List Rec} {s : Int} (h : ∀ r ∈ l, okRec r) : ∀ p ∈ rpl l s, okPt p := puts_ok (fun x hx => by cases hx) (pts_ok h)
theorem rpl_snoc_t {l : List Rec} {s : Int} {r : Rec} (h : r.1 = s) : rpl (l ++ [r]) s = put (rpl l s) r.2 := by rw [rpl, pts_snoc_t h, puts_snoc]; rfl
theorem rpl_snoc_f {l : List Rec} {s : Int} {r : Rec} (h : r.1 ≠ s) : rpl (l ++ [r]) s = rpl l s := by rw [rpl, pts_snoc_f h]; rfl
theorem rpl_mono {l m : List Rec} {s : Int} : (rpl l s).length ≤ (rpl (l ++ m) s).length := by
  have e : rpl (l ++ m) s = puts (rpl l s) (pts m s) := by simp [rpl, pts, puts]
  rw [e]; exact puts_ge rpl_asc
/-- The last value of a time. -/
def lastOf (l : List Rec) (s t : Int) : Bool × Int := l.foldl (fun a r => if r.1 = s ∧ r.2.1 = t then (true, r.2.2) else a) (false, 0)
theorem lastOf_snoc {l : List Rec} {s t : Int} {r : Rec} : lastOf (l ++ [r]) s t = if r.1 = s ∧ r.2.1 = t then (true, r.2.2) else lastOf l s t := by simp [lastOf]
theorem lastOf_take {l : List Rec} {s t : Int} {k : Nat} {r : Rec} (h : l[k]? = some r) : lastOf (l.take (k + 1)) s t = if r.1 = s ∧ r.2.1 = t then (true, r.2.2) else lastOf (l.take k) s t := by
  rw [List.take_add_one, h]; exact lastOf_snoc
theorem rpl_last (l : List Rec) (s : Int) (x : Pt) (hx : x ∈ rpl l s) : lastOf l s x.1 = (true, x.2) := by
  obtain ⟨n, hn⟩ : ∃ n, n = l.length := ⟨_, rfl⟩
  induction n generalizing l with
  | zero =>
    obtain rfl := List.eq_nil_of_length_eq_zero hn.symm
    cases hx
  | succ n ih =>
    rcases List.eq_nil_or_concat l with rfl | ⟨l', r, rfl⟩
    · simp at hn
    · have hn' : n = l'.length := by simpa using hn
      rw [List.concat_eq_append] at hx ⊢
      rw [lastOf_snoc]
      by_cases h1 : r.1 = s
      · rw [rpl_snoc_t h1] at hx
        rcases mem_put.1 hx with rfl | ⟨h2, h3⟩
        · rw [if_pos ⟨h1, rfl⟩]
        · rw [if_neg (fun h => h3 h.2.symm)]
          exact ih l' h2 hn'
      · rw [rpl_snoc_f h1] at hx
        rw [if_neg (fun h => h1 h.1)]
        exact ih l' hx hn'
/-- Other series do not matter. -/
def ownR (l : List Rec) (s : Int) : List Rec := l.filter fun r => decide (r.1 = s)
theorem ownR_pts {l : List Rec} {s : Int} : pts (ownR l s) s = pts l s := by simp [pts, ownR, List.filter_filter]
theorem ownR_rpl {l : List Rec} {s : Int} : rpl (ownR l s) s = rpl l s := by rw [rpl, ownR_pts]; rfl
theorem ownR_len : ∀ {l : List Rec} {s : Int}, (ents (ownR l s)).length ≤ (ents l).length
  | [], s => Nat.le_refl _
  | r :: l, s => by
    have ih := ownR_len (l := l) (s := s)
    simp only [ents, ownR] at ih ⊢
    by_cases h : r.1 = s
    · rw [List.filter_cons_of_pos (by simp [h]), List.flatMap_cons, List.flatMap_cons, List.length_append, List.length_append]; omega
    · rw [List.filter_cons_of_neg (by simp [h]), List.flatMap_cons, List.length_append]; omega
theorem ownR_ok {l : List Rec} {s : Int} (h : ∀ r ∈ l, okRec r) : ∀ r ∈ ownR l s, okRec r := fun r hr => h r (List.mem_filter.1 hr).1
/-! ### how the reference reads an entry -/
theorem spec_some {b body : By} {n : Nat} {c0 c1 s0 : UInt8} {t k z m : Nat} (h0 : b[0]? = some c0) (hn : c0.toNat = n) (hl : n + 2 ≤ b.length) (hbody : body = (b.take (n + 1)).drop 1)
    (h1 : gv (body.drop 1) = some (t, k)) (h2 : gv (body.drop (1 + k)) = some (z, m)) (hm : 1 + k + m = n) (hlast : b[n + 1]? = some c1) (hs : c1.toNat = sumB body) (hs0 : body[0]? = some s0) (hser : s0.toNat < 8) (hpt : okPt ((t : Int), uz z)) :
    rdE b = some ((s0.toNat : Int), (t : Int), uz z) ∧ (ent ((s0.toNat : Int), (t : Int), uz z)).length = n + 2 := by
  obtain ⟨g1, g2, y1, g3⟩ := gv_some h1
  obtain ⟨g4, g5, y2, g6⟩ := gv_some h2
  have hbl : body.length = n := by rw [hbody, List.length_drop, List.length_take]; omega
  have e1 : body.drop (1 + k) = y1 := by rw [← List.drop_drop, g3, g2, List.drop_left]
  rw [e1] at g6
  have hy1 : y1.length = m + y2.length := by rw [g6, List.length_append, g5]
  have hd : (body.drop 1).length = k + y1.length := by rw [g3, List.length_append, g2]
  rw [List.length_drop, hbl] at hd
  have hy2 : y2 = [] := List.eq_nil_of_length_eq_zero (by omega)
  rw [hy2, List.append_nil] at g6
  have eb : body = s0 :: body.drop 1 := by
    cases hb : body with
    | nil => rw [hb] at hs0; simp at hs0
    | cons x xs => rw [hb] at hs0; simp at hs0; subst hs0; rfl
  have et : told ((s0.toNat : Int), (t : Int), uz z) = body := by
    rw [eb, g3, g6]
    show UInt8.ofNat ((s0.toNat : Int)).toNat :: (pv ((t : Int)).toNat ++ pv (zz (uz z))) = _
    rw [zz_uz, Int.toNat_natCast, Int.toNat_natCast, u8_eq rfl]
  have hlen : (ent ((s0.toNat : Int), (t : Int), uz z)).length = n + 2 := by rw [ent_len, et, hbl]
  refine ⟨rdE_iff.2 ⟨⟨by dsimp only; omega, by dsimp only; omega, hpt⟩, ?_⟩, hlen⟩
  rw [ent, et, hbl, u8_eq hn, u8_eq hs]
  refine ⟨b.drop (n + 2), ?_⟩
  have b1 : b = b.take (n + 1) ++ b.drop (n + 1) := (List.take_append_drop _ _).symm
  have b2 : b.drop (n + 1) = c1 :: b.drop (n + 2) := by
    obtain ⟨hlt, hc⟩ := List.getElem?_eq_some_iff.1 hlast
    rw [List.drop_eq_getElem_cons hlt, hc]
  have b3 : b.take (n + 1) = c0 :: body := by
    rw [hbody]
    cases hb : b with
    | nil => rw [hb] at h0; simp at h0
    | cons x xs => rw [hb] at h0; simp at h0; subst h0; simp
  conv => rhs; rw [b1, b2, b3]
  simp
theorem spec_back {b : By} {r : Rec} (h : rdE b = some r) :
    ∃ (n : Nat) (y : By), n = (told r).length ∧ okRec r ∧ 3 ≤ n ∧ n ≤ 5 ∧ b[0]? = some (UInt8.ofNat n) ∧ n + 2 ≤ b.length ∧ (b.take (n + 1)).drop 1 = told r ∧ b[n + 1]? = some (UInt8.ofNat (sumB (told r))) ∧
      (told r)[0]? = some (UInt8.ofNat r.1.toNat) ∧ gv ((told r).drop 1) = some (r.2.1.toNat, (pv r.2.1.toNat).length) ∧ gv ((told r).drop (1 + (pv r.2.1.toNat).length)) = some (zz r.2.2, (pv (zz r.2.2)).length) ∧ 1 + (pv r.2.1.toNat).length + (pv (zz r.2.2)).length = n := by
  obtain ⟨hr, y, rfl⟩ := rdE_iff.1 h
  obtain ⟨l1, l2⟩ := told_len hr
  have h1 := t_le hr
  have h2 := zz_le hr
  refine ⟨(told r).length, y, rfl, hr, l1, l2, by simp [ent], by rw [List.length_append, ent_len]; omega, ?_, ?_, rfl, ?_, ?_, ?_⟩
  · rw [ent, List.cons_append, List.take_succ_cons, List.drop_succ_cons, List.drop_zero, List.append_assoc, List.take_left]
  · rw [ent, List.cons_append, List.getElem?_cons_succ, List.append_assoc, List.getElem?_append_right (Nat.le_refl _), Nat.sub_self]; rfl
  · show gv (pv r.2.1.toNat ++ pv (zz r.2.2)) = _
    exact gv_pv (by omega) _
  · rw [Nat.add_comm 1]
    show gv ((pv r.2.1.toNat ++ pv (zz r.2.2)).drop (pv r.2.1.toNat).length) = _
    rw [List.drop_left]
    have := gv_pv (n := zz r.2.2) (by omega) []
    rwa [List.append_nil] at this
  · simp only [told, List.length_cons, List.length_append]; omega
theorem spec_none {b body : By} {N : Nat} {c0 c1 s0 : UInt8} (h0 : b[0]? = some c0) (hN : c0.toNat = N) (hbody : body = (b.take (N + 1)).drop 1) (hc1 : b[N + 1]? = some c1) (hs0 : body[0]? = some s0)
    (hf : ¬ ∃ t k z m : Nat, gv (body.drop 1) = some (t, k) ∧ gv (body.drop (1 + k)) = some (z, m) ∧ 1 + k + m = N ∧ c1.toNat = sumB body ∧ s0.toNat < 8 ∧ okPt ((t : Int), uz z)) : rdE b = none := by
  cases e : rdE b with
  | none => rfl
  | some r =>
    exfalso
    obtain ⟨n, y, hn, hr, l3, l5, q0, ql, qb, q1, qs, qg, qh, qm⟩ := spec_back e
    rw [h0] at q0
    have hnN : n = N := by
      have : c0 = UInt8.ofNat n := by simpa using q0
      rw [← hN, this, u8_of (by omega)]
    subst hnN
    rw [hbody, qb] at hs0 hf
    rw [qs] at hs0
    have hs0' : s0 = UInt8.ofNat r.1.toNat := by simpa using hs0.symm
    rw [hc1] at q1
    have hc1' : c1 = UInt8.ofNat (sumB (told r)) := by simpa using q1
    have hsl := sumB_lt (told r)
    have r0 := hr.1
    have r1 := hr.2.1
    have r2 := hr.2.2.1
    refine hf ⟨_, _, _, _, qg, qh, qm, by rw [hc1', u8_of (by omega)], by rw [hs0', u8_of (by omega)]; omega, ?_⟩
    rw [uz_zz, show ((r.2.1.toNat : Nat) : Int) = r.2.1 by omega]
    exact hr.2.2
theorem spec_short {b : By} {c0 : UInt8} (h0 : b[0]? = some c0) (h : b.length < c0.toNat + 2 ∨ c0.toNat < 3) : rdE b = none := by
  cases e : rdE b with
  | none => rfl
  | some r =>
    exfalso
    obtain ⟨n, y, hn, hr, l3, l5, q0, ql, _⟩ := spec_back e
    rw [h0] at q0
    have : c0 = UInt8.ofNat n := by simpa using q0
    rw [this, u8_of (by omega)] at h
    omega
theorem spec_empty {b : By} (h : b.length < 1) : rdE b = none := by
  obtain rfl := List.eq_nil_of_length_eq_zero (show b.length = 0 by omega)
  exact rdE_nil
end Go.Proofs.Ytjhokokkablcpaa

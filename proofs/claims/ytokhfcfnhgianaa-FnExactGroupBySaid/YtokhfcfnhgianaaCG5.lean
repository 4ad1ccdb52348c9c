/- Texts: Eng11 -/
import Derived.Test.YtokhfcfnhgianaaCG4
/-
  Calls by contract.
-/
namespace Go.Proofs.Ytokhfcfnhgianaa
open Go.RowKit
set_option linter.unusedVariables false
set_option linter.unusedSimpArgs false

section
variable {P : Program}

theorem nodup_perm_lt {q : List Nat} (h : nodupB q = true) {i j : Nat} (hi : i < q.length) (hj : j < q.length) (e : q[i] = q[j]) : i = j :=
  nodupB_inj h i j hi hj (by simp [perm, List.getD, hi, hj, e])

theorem cpi_lo {q : List Nat} {n i : Nat} (h : i < q.length) : cpi q n i = q[i] := by simp [cpi, List.getD, h]
theorem cpi_hi {q : List Nat} {n i : Nat} (h : q.length ≤ i) : cpi q n i = n + (i - q.length) := by
  simp [cpi, List.getD, List.getElem?_eq_none h]; omega

/-- What a call by contract leaves of the caller's state. -/
theorem Good.call {cx : Cx} {S : Nat → AV} {O : Nat → OB} {a : Act} {w w' : World} {ρ ρ' : Nat → Value} {Z Zc Z' Zn : Nat → Prop} {n d : Nat} {q : List Nat} {obs : List OB} {rs : List AR} {all : List OB} {us : List Value}
    (h : Good cx S O (fun t => n ≤ t) a w ρ Z) (hq : nodupB q = true) (hql : q.length = obs.length) (hqn : ∀ t ∈ q, t < n) (hobs : ∀ i (hi : i < q.length), O q[i] = (obAt obs i).sub (cpi q n)) (hlen : obs.length ≤ all.length)
    (hl : Leave w (fun i => ρ (cpi q n i)) Zc obs w' ρ' Z' rs all us) (hZ : ∀ g, Z g → Zn g) (hZn : ∀ g, Zn g → Z g ∨ w.heap.size ≤ g ∨ Wr obs (fun i => ρ (cpi q n i)) g) (hZlt : ∀ g, Zn g → g < w'.heap.size)
    (hZo : ∀ i g, (obAt all i).live = true → blk (ρ' i) = some g → ¬ Zn g)
    (hres : DRL ρ' Zn w' rs us) (hobj : ∀ i, DO ρ' Zn w' i (obAt all i)) (hd : d < cx.N) :
    Good cx (lkf S [(d, mkRes (rs.map (·.sub (cpi q n))))]) (lkf O (obLM (cpi q n) 0 all)) (fun t => n + (all.length - obs.length) ≤ t) (a.put (some d) (mkRet us)) w'
      (fun t => if n ≤ t ∧ t < n + (all.length - obs.length) then ρ' (obs.length + (t - n)) else ρ t) Zn := by
  let ρn : Nat → Value := fun t => if n ≤ t ∧ t < n + (all.length - obs.length) then ρ' (obs.length + (t - n)) else ρ t
  have hρlo : ∀ t, t < n → ρn t = ρ t := fun t ht => if_neg (by omega)
  have hρπ : ∀ i, i < all.length → ρn (cpi q n i) = ρ' i := by
    intro i hi
    by_cases h1 : i < q.length
    · have e1 := cpi_lo (n := n) h1
      have h2 : q[i] < n := hqn _ (List.getElem_mem h1)
      rw [hl.same i (by omega)]
      show ρn (cpi q n i) = ρ (cpi q n i)
      rw [e1]; exact hρlo _ h2
    · have e1 := cpi_hi (n := n) (Nat.le_of_not_lt h1)
      rw [e1]
      show (if _ then _ else _) = _
      rw [if_pos (by omega)]
      congr 1; omega
  have hinj : ∀ i j, i < 0 + all.length → j < 0 + all.length → 0 ≤ i → 0 ≤ j → cpi q n i = cpi q n j → i = j := by
    intro i j hi hj _ _ e
    by_cases h1 : i < q.length <;> by_cases h2 : j < q.length
    · rw [cpi_lo h1, cpi_lo h2] at e
      exact nodup_perm_lt hq h1 h2 e
    · rw [cpi_lo h1, cpi_hi (Nat.le_of_not_lt h2)] at e
      have := hqn _ (List.getElem_mem h1)
      omega
    · rw [cpi_hi (Nat.le_of_not_lt h1), cpi_lo h2] at e
      have := hqn _ (List.getElem_mem h2)
      omega
    · rw [cpi_hi (Nat.le_of_not_lt h1), cpi_hi (Nat.le_of_not_lt h2)] at e
      omega
  have hO' := fun t => lkf_obLM O (cpi q n) all 0 t hinj
  have hWr : ∀ g, Wr obs (fun i => ρ (cpi q n i)) g → ∃ i, ∃ hi : i < q.length, (O q[i]).live = true ∧ blk (ρ q[i]) = some g := by
    rintro g ⟨i, h1, h2⟩
    have hi : i < q.length := by
      rw [hql]
      rcases Nat.lt_or_ge i obs.length with h | h
      · exact h
      · rw [obAt, List.getD_eq_getElem?_getD, List.getElem?_eq_none h] at h1; cases h1
    refine ⟨i, hi, ?_, ?_⟩
    · rw [hobs i hi, OB.live_sub]; exact h1
    · dsimp only at h2; rw [cpi_lo hi] at h2; exact h2
  have hWrB : ∀ g, Wr obs (fun i => ρ (cpi q n i)) g → cx.B ≤ g ∨ cx.M g := fun g hg => by
    obtain ⟨i, hi, h1, h2⟩ := hWr g hg
    exact (h.out _ g h1 h2).2
  have hZWr : ∀ g, Z g → ¬ Wr obs (fun i => ρ (cpi q n i)) g := fun g hz hg => by
    obtain ⟨i, hi, h1, h2⟩ := hWr g hg
    exact (h.out _ g h1 h2).1 hz
  have hsame : Same Z w w' := fun g hz => hl.old g (h.zlt g hz) (hZWr g hz)
  have hltn : ∀ t, (O t).live = true → t < n := fun t ht => by
    rcases Nat.lt_or_ge t n with h1 | h1
    · exact h1
    · rw [(h.virgin t h1).1] at ht; cases ht
  -- another object of the caller's: its block is not written
  have hother : ∀ t, (O t).live = true → (∀ i, 0 ≤ i → i < 0 + all.length → cpi q n i ≠ t) → ∀ g, blk (ρ t) = some g → ¬ Wr obs (fun i => ρ (cpi q n i)) g := by
    intro t ht hne g hb hg
    obtain ⟨i, hi, h1, h2⟩ := hWr g hg
    exact hne i (Nat.zero_le _) (by omega) (by rw [cpi_lo hi]; exact h.sep _ _ g h1 ht h2 hb)
  have hallt : ∀ i, (obAt all i).live = true → i < all.length := fun i hi => by
    rcases Nat.lt_or_ge i all.length with h1 | h1
    · exact h1
    · rw [obAt, List.getD_eq_getElem?_getD, List.getElem?_eq_none h1] at hi; cases hi
  have htg := hl.tags
  simp only [List.all_eq_true] at htg
  have hobtag : ∀ i, ∀ s ∈ (obAt all i).tags, s < all.length := fun i s hs => by
    have h1 : obAt all i ∈ all ∨ obAt all i = .gone := by
      rcases Nat.lt_or_ge i all.length with h | h
      · left; rw [obAt, List.getD_eq_getElem?_getD, List.getElem?_eq_getElem h]; exact List.getElem_mem h
      · right; rw [obAt, List.getD_eq_getElem?_getD, List.getElem?_eq_none h]; rfl
    rcases h1 with h1 | h1
    · have := htg.2 _ h1
      simp only [OB.okTags, List.all_eq_true] at this
      exact blt_lt (this s hs)
    · rw [h1] at hs; cases hs
  have hrtag : ∀ r ∈ rs, ∀ s ∈ r.tags, s < all.length := fun r hr s hs => by
    have := htg.1 r hr
    exact blt_lt (this s hs)
  have hcn : ∀ i, i < all.length → cpi q n i < n + (all.length - obs.length) := fun i hi => by
    by_cases h1 : i < q.length
    · rw [cpi_lo h1]; have := hqn _ (List.getElem_mem h1); omega
    · rw [cpi_hi (Nat.le_of_not_lt h1)]; omega
  have hnt : ∀ t, n ≤ t → ∀ s, t ∉ (S s).tags := fun t ht s => (h.virgin t ht).2.1 s
  have hnt' : ∀ t, n ≤ t → ∀ s, t ∉ (O s).tags := fun t ht s => (h.virgin t ht).2.2 s
  have hSlot : ∀ t, DA ρn Zn w' (S t) (a.tmps.getD t undef) := fun t => DA.mono hZ hsame (fun s hs => hρlo s (by
    rcases Nat.lt_or_ge s n with h1 | h1
    · exact h1
    · exact absurd hs (hnt s h1 t))) (h.slot t)
  have hBig : cx.B ≤ w'.heap.size := Nat.le_trans h.big hl.size
  have hDRL : DRL ρn Zn w' (rs.map (·.sub (cpi q n))) us := DRL.unsub (fun r hr s hs => hρπ s (hrtag r hr s hs)) hres
  have hRes : DA ρn Zn w' (mkRes (rs.map (·.sub (cpi q n)))) (mkRet us) := by
    match rs, us, hDRL with
    | [], [], _ => exact ⟨[], rfl, trivial⟩
    | [r], [u], h => exact h.1
    | r :: r2 :: rs, u :: u2 :: us, h => exact ⟨_, rfl, h⟩
  refine Good.weak (V := fun t => n + (all.length - obs.length) ≤ t) (Good.put (V := fun t => n + (all.length - obs.length) ≤ t) ⟨h.size, h.defers, hSlot, fun t => ?_, fun t t' g h1 h2 h3 h4 => ?_, fun t g h1 h2 => ?_, hZlt, fun t ht => ⟨?_, hnt t (by omega), fun s => ?_⟩, hl.os.trans h.os, hl.tape.trans h.tape, hl.output.trans h.output, hBig, fun g hb hm => ?_, fun i hi => ?_, fun t ht => h.vlo t (by omega), ⟨fun g hz => hZ g (h.zin.1 g hz), h.zin.2⟩, fun g hz => ?_⟩ hd hRes ?_) fun _ h => h
  · rcases hO' t with ⟨i, h1, h2, h3, h4⟩ | ⟨h1, h2⟩
    · rw [h4, ← h3]
      exact DO.unsub (hρπ i (by omega)) (fun s hs => hρπ s (hobtag i s hs)) (hobj i)
    · rw [h2]
      by_cases hg : O t = .gone
      · rw [hg]; trivial
      · have htn : t < n := by
          rcases Nat.lt_or_ge t n with h3 | h3
          · exact h3
          · exact absurd (h.virgin t h3).1 hg
        refine DO.mono hZ hsame (hρlo t htn) (fun s hs => hρlo s (by
          rcases Nat.lt_or_ge s n with h1 | h1
          · exact h1
          · exact absurd hs (hnt' s h1 t))) (fun hl' g hb => hl.old g (h.lt hl' hb) (hother t hl' h1 g hb)) (h.obj t)
  · rcases hO' t with ⟨i, a1, a2, a3, a4⟩ | ⟨a1, a2⟩ <;> rcases hO' t' with ⟨i', b1, b2, b3, b4⟩ | ⟨b1, b2⟩
    · rw [a4, OB.live_sub] at h1
      rw [b4, OB.live_sub] at h2
      rw [← a3] at h3 ⊢
      rw [← b3] at h4 ⊢
      have e1 : blk (ρ' i) = some g := by rw [← hρπ i (by omega)]; exact h3
      have e2 : blk (ρ' i') = some g := by rw [← hρπ i' (by omega)]; exact h4
      rw [hl.sep i i' g h1 h2 e1 e2]
    · exfalso
      rw [a4, OB.live_sub] at h1
      rw [b2] at h2
      rw [← a3] at h3
      have e1 : blk (ρ' i) = some g := by rw [← hρπ i (by omega)]; exact h3
      have e2 : blk (ρ t') = some g := by rw [← hρlo t' (hltn t' h2)]; exact h4
      rcases (hl.out i g h1 e1).2 with h5 | h5
      · have := h.lt h2 e2; omega
      · exact hother t' h2 b1 g e2 h5
    · exfalso
      rw [b4, OB.live_sub] at h2
      rw [a2] at h1
      rw [← b3] at h4
      have e1 : blk (ρ' i') = some g := by rw [← hρπ i' (by omega)]; exact h4
      have e2 : blk (ρ t) = some g := by rw [← hρlo t (hltn t h1)]; exact h3
      rcases (hl.out i' g h2 e1).2 with h5 | h5
      · have := h.lt h1 e2; omega
      · exact hother t h1 a1 g e2 h5
    · rw [a2] at h1
      rw [b2] at h2
      exact h.sep t t' g h1 h2 (by rw [← hρlo t (hltn t h1)]; exact h3) (by rw [← hρlo t' (hltn t' h2)]; exact h4)
  · rcases hO' t with ⟨i, a1, a2, a3, a4⟩ | ⟨a1, a2⟩
    · rw [a4, OB.live_sub] at h1
      rw [← a3] at h2
      have e1 : blk (ρ' i) = some g := by rw [← hρπ i (by omega)]; exact h2
      refine ⟨hZo i g h1 e1, ?_⟩
      rcases (hl.out i g h1 e1).2 with h5 | h5
      · exact .inl (Nat.le_trans h.big h5)
      · exact hWrB g h5
    · rw [a2] at h1
      have e2 : blk (ρ t) = some g := by rw [← hρlo t (hltn t h1)]; exact h2
      refine ⟨fun hz => ?_, (h.out t g h1 e2).2⟩
      rcases hZn g hz with h5 | h5 | h5
      · exact (h.out t g h1 e2).1 h5
      · have := h.lt h1 e2; omega
      · exact hother t h1 a1 g e2 h5
  · rcases hO' t with ⟨i, a1, a2, a3, a4⟩ | ⟨a1, a2⟩
    · exfalso; have := hcn i (by omega); omega
    · rw [a2]; exact (h.virgin t (by omega)).1
  · rcases hO' s with ⟨i, a1, a2, a3, a4⟩ | ⟨a1, a2⟩
    · rw [a4, OB.tags_sub]
      intro hm
      obtain ⟨s', h5, h6⟩ := List.mem_map.1 hm
      have := hcn s' (hobtag i s' h5)
      omega
    · rw [a2]; exact hnt' t (by omega) s
  · exact (hl.old g (Nat.lt_of_lt_of_le hb h.big) (fun hw => (hWrB g hw).elim (fun h5 => by omega) hm)).trans (h.old g hb hm)
  · show ρn i = _
    rw [hρlo i (by have := h.vlo n (Nat.le_refl n); omega)]
    exact h.pin i hi
  · rcases hZn g hz with h5 | h5 | h5
    · exact h.zout g h5
    · exact .inr (.inl (Nat.le_trans h.big h5))
    · exact .inr (hWrB g h5)
  · intro s hs hv
    have : ∀ r ∈ rs.map (·.sub (cpi q n)), ∀ s ∈ r.tags, s < n + (all.length - obs.length) := by
      intro r hr s hs
      obtain ⟨r', h5, rfl⟩ := List.mem_map.1 hr
      rw [AR.tags_sub] at hs
      obtain ⟨s', h6, rfl⟩ := List.mem_map.1 hs
      exact hcn s' (hrtag r' h5 s' h6)
    have h5 : ∃ r ∈ rs.map (·.sub (cpi q n)), s ∈ r.tags := by
      revert hs
      generalize rs.map (·.sub (cpi q n)) = l
      intro hs
      match l, hs with
      | [], hs => simp [mkRes, AV.tags] at hs
      | [r], hs => exact ⟨r, .head _, hs⟩
      | r :: r2 :: l, hs =>
        simp only [mkRes, AV.tags, List.mem_flatMap] at hs
        obtain ⟨r', h6, h7⟩ := hs
        exact ⟨r', h6, h7⟩
    obtain ⟨r, h6, h7⟩ := h5
    have := this r h6 s h7
    omega

/-- What a cell is read as: a slice of the caller's own as its rows. -/
inductive Rd (O : Nat → OB) (ro : Bool) : A1 → A1 → Prop where
  | same {x : A1} : x.tag = none → Rd O ro x x
  | froz {t wd : Nat} {rows : List (List CV)} : O t = .froz wd rows → Rd O ro (.own t) (.c (.sl wd rows))
  | row {t wd : Nat} {e : TypeId} {rows : List (List CV)} : ro = true → O t = .row wd e rows → Rd O ro (.own t) (.c (.sl wd rows))
  | rnil {wd : Nat} : Rd O ro (.c (.raw (.slice none 0 0))) (.c (.sl wd []))
inductive RdL (O : Nat → OB) (ro : Bool) : List A1 → List A1 → Prop where
  | nil : RdL O ro [] []
  | cons {x y : A1} {xs ys : List A1} : Rd O ro x y → RdL O ro xs ys → RdL O ro (x :: xs) (y :: ys)
/-- Arguments: operand by operand. f: the caller's names of the callee's tags; ro: a slice of the caller's own may be read. -/
inductive Args (S : Nat → AV) (O : Nat → OB) (f : Nat → Nat) (ro : Bool) : List Operand → List AR → Prop where
  | nil : Args S O f ro [] []
  | one {x : Operand} {r : AR} {xs : List Operand} {rs : List AR} : Ag S x (.r r) → r.tags = [] → Args S O f ro xs rs → Args S O f ro (x :: xs) (r :: rs)
  | froz {x : Operand} {t wd : Nat} {rows : List (List CV)} {xs : List Operand} {rs : List AR} : Ag S x (.own t) → O t = .froz wd rows → Args S O f ro xs rs → Args S O f ro (x :: xs) (.one (.c (.sl wd rows)) :: rs)
  | rnil {x : Operand} {wd : Nat} {xs : List Operand} {rs : List AR} : Ag S x (.raw (.slice none 0 0)) → Args S O f ro xs rs → Args S O f ro (x :: xs) (.one (.c (.sl wd [])) :: rs)
  | row {x : Operand} {t wd : Nat} {e : TypeId} {rows : List (List CV)} {xs : List Operand} {rs : List AR} : ro = true → Ag S x (.own t) → O t = .row wd e rows → Args S O f ro xs rs → Args S O f ro (x :: xs) (.one (.c (.sl wd rows)) :: rs)
  | tag {x : Operand} {r : AR} {xs : List Operand} {rs : List AR} : Ag S x (.r (r.sub f)) → Args S O f ro xs rs → Args S O f ro (x :: xs) (r :: rs)
  | agg {x : Operand} {us vs : List A1} {xs : List Operand} {rs : List AR} : Ag S x (.agg us) → RdL O ro us vs → Args S O f ro xs rs → Args S O f ro (x :: xs) (.agg vs :: rs)

def RowZ (O : Nat → OB) (ρ : Nat → Value) (g : Nat) : Prop := ∃ t wd e rows, O t = .row wd e rows ∧ blk (ρ t) = some g

theorem row_dc {cx : Cx} {S : Nat → AV} {O : Nat → OB} {V : Nat → Prop} {a : Act} {w : World} {ρ : Nat → Value} {Z : Nat → Prop} (hg : Good cx S O V a w ρ Z) {Zc : Nat → Prop} (hZ : ∀ g, Z g → Zc g) (hR : ∀ g, RowZ O ρ g → Zc g)
    {t wd : Nat} {e : TypeId} {rows : List (List CV)} (h : O t = .row wd e rows) : DC Zc w (.sl wd rows) (ρ t) := by
  have ho := hg.obj t
  rw [h] at ho
  obtain ⟨h1, us, h2, h3⟩ := do_row.1 ho
  rcases h3 with ⟨h4, h5, rfl⟩ | ⟨g, off, cap, cur, h4, h5, h6, h7, h8, h9, h10⟩
  · have : rows = [] := List.eq_nil_of_length_eq_zero h5
    subst this
    rw [h4]; exact .nil wd none 0 (Nat.zero_le _)
  · have h2' : DL Zc w rows.flatten us := h2.mono hZ (Same.refl _ _)
    have hzg : Zc g := hR g ⟨t, wd, e, rows, h, by rw [h4]; rfl⟩
    rw [h4]
    refine .sl wd rows g off _ cap us rfl h1 hzg h6 h7 h2'.len (fun k u hu => ?_) (fun k hk hk' => h2'.at k hk hk')
    rw [World.cell?, h5]
    simpa using h10 k u hu

theorem DR.notag {ρ ρ' : Nat → Value} {Z : Nat → Prop} {w : World} {r : AR} {v : Value} (h : DR ρ Z w r v) (ht : r.tags = []) : DR ρ' Z w r v :=
  DR.mono (fun _ h => h) (Same.refl _ _) (fun t h => by rw [ht] at h; cases h) h

theorem Rd.d1 {cx : Cx} {S : Nat → AV} {O : Nat → OB} {V : Nat → Prop} {a : Act} {w : World} {ρ : Nat → Value} {Z : Nat → Prop} (hg : Good cx S O V a w ρ Z) {Zc : Nat → Prop} (hZ : ∀ g, Z g → Zc g)
    {f : Nat → Nat} {ro : Bool} (hR : ro = true → ∀ g, RowZ O ρ g → Zc g) {x y : A1} (h : Rd O ro x y) {v : Value} (hv : D1 ρ Z w x v) : D1 (fun t => ρ (f t)) Zc w y v := by
  cases h with
  | same h1 => exact D1.mono hZ (Same.refl _ _) (fun t ht => by rw [h1] at ht; cases ht) hv
  | @froz t wd rows h2 =>
    have ho := hg.obj t
    rw [h2] at ho
    show DC Zc w _ _
    rw [hv.1]
    exact DC.mono hZ (Same.refl _ _) ho
  | row hro h2 =>
    show DC Zc w _ _
    rw [hv.1]
    exact row_dc hg hZ (hR hro) h2
  | rnil =>
    show DC Zc w _ _
    have : v = .slice none 0 0 := da_raw (ρ := ρ) (Z := Z) (w := w) (show DA ρ Z w (.raw (.slice none 0 0)) v from hv)
    rw [this]
    exact DC.nil _ none 0 (Nat.zero_le _)
theorem RdL.d1l {cx : Cx} {S : Nat → AV} {O : Nat → OB} {V : Nat → Prop} {a : Act} {w : World} {ρ : Nat → Value} {Z : Nat → Prop} (hg : Good cx S O V a w ρ Z) {Zc : Nat → Prop} (hZ : ∀ g, Z g → Zc g)
    {f : Nat → Nat} {ro : Bool} (hR : ro = true → ∀ g, RowZ O ρ g → Zc g) {xs ys : List A1} (h : RdL O ro xs ys) : ∀ {us : List Value}, D1L ρ Z w xs us → D1L (fun t => ρ (f t)) Zc w ys us := by
  induction h with
  | nil => intro us hu; cases us with
    | nil => trivial
    | cons u us => exact hu.elim
  | cons h1 _ ih => intro us hu; cases us with
    | nil => exact hu.elim
    | cons u us => exact ⟨h1.d1 hg hZ hR hu.1, ih hu.2⟩

theorem Args.drl {cx : Cx} {S : Nat → AV} {O : Nat → OB} {V : Nat → Prop} {a : Act} {w : World} {ρ : Nat → Value} {Z : Nat → Prop} (hg : Good cx S O V a w ρ Z) {Zc : Nat → Prop} (hZ : ∀ g, Z g → Zc g)
    {f : Nat → Nat} {ro : Bool} (hR : ro = true → ∀ g, RowZ O ρ g → Zc g) {xs : List Operand} {rs : List AR} (h : Args S O f ro xs rs) : DRL (fun t => ρ (f t)) Zc w rs (xs.map a.eval) := by
  induction h with
  | nil => trivial
  | one h1 h2 _ ih => exact ⟨DR.notag (DR.mono hZ (Same.refl _ _) (fun _ _ => rfl) (hg.ag h1)) h2, ih⟩
  | @froz x t wd rows xs rs h1 h2 _ ih =>
    refine ⟨?_, ih⟩
    have ho := hg.obj t
    rw [h2] at ho
    have e := (hg.ag h1).1
    show DC Zc w _ _
    rw [e]
    exact DC.mono hZ (Same.refl _ _) ho
  | rnil h1 _ ih =>
    refine ⟨?_, ih⟩
    show DC Zc w _ _
    rw [da_raw (hg.ag h1)]
    exact DC.nil _ none 0 (Nat.zero_le _)
  | row hro h1 h2 _ ih =>
    refine ⟨?_, ih⟩
    have e := (hg.ag h1).1
    show DC Zc w _ _
    rw [e]
    exact row_dc hg hZ (hR hro) h2
  | tag h1 _ ih => exact ⟨DR.sub (DR.mono hZ (Same.refl _ _) (fun _ _ => rfl) (hg.ag h1)), ih⟩
  | agg h1 h2 _ ih =>
    obtain ⟨us, e, hu⟩ := hg.ag h1
    exact ⟨⟨us, e, h2.d1l hg hZ hR hu⟩, ih⟩

theorem run_callFunc {f : FuncId} (h : fnOk P f = true) (args : Array Value) (w : World) : (callFunc f args).run P w = .ok (.enter f args) w := by
  unfold fnOk at h
  cases hf : P.funcs[f]? with
  | none => rw [hf] at h; cases h
  | some fn =>
    rw [hf] at h
    simp only [Bool.and_eq_true] at h
    obtain ⟨h1, h2⟩ := h
    have h3 : fn.body.isNone = false := by cases hb : fn.body <;> simp [hb] at h1 ⊢
    have h4 : (fn.name == "runtime.NumGoroutine") = false := by simpa using h2
    have h5 : fn.name ≠ "runtime.NumGoroutine" := fun e => by rw [e] at h4; simp at h4
    have h6 : fn.body ≠ none := fun e => by rw [e] at h3; simp at h3
    simp [callFunc, hf, h5, h6]

variable {ops : Array Oper} {cx : Cx} {Q : APost} {rest : List Oper} {l : SL} {m : OL} {n : Nat}
variable {d : Nat} {ty : TypeId} {pos : String} {af : Array Edge}

def ObsOK (m : OL) (f : Nat → Nat) : List Nat → List OB → Prop
  | [], [] => True
  | t :: ts, o :: os => lk .gone m t = o.sub f ∧ ObsOK m f ts os
  | _, _ => False
theorem ObsOK.len {m : OL} {f : Nat → Nat} : ∀ {q : List Nat} {obs : List OB}, ObsOK m f q obs → q.length = obs.length
  | [], [], _ => rfl
  | _ :: _, _ :: _, h => by simp [ObsOK.len h.2]
  | [], _ :: _, h => h.elim
  | _ :: _, [], h => h.elim
theorem ObsOK.at {m : OL} {f : Nat → Nat} : ∀ {q : List Nat} {obs : List OB}, ObsOK m f q obs → ∀ i (hi : i < q.length), lk .gone m q[i] = (obAt obs i).sub f
  | t :: ts, o :: os, h, 0, _ => h.1
  | t :: ts, o :: os, h, i + 1, hi => by simpa [obAt] using ObsOK.at h.2 i (by simpa using hi)

/-- A call by contract, objects handed over: q. -/
theorem al_call_m {f : FuncId} {xs : List Operand} {ats : Array TypeId} {args : List AR} {obs : List OB} {Post : List AR → List OB → Prop} (q : List Nat) (hc : Con P f args obs Post)
    (hq : (nodupB q && q.all (Nat.blt · n)) = true) (hobs : ObsOK m (cpi q n) q obs) (ha : Args (lk .dead l) (lk .gone m) (cpi q n) false xs args) (hd : Nat.blt d cx.N = true)
    (k : ∀ rs all, obs.length ≤ all.length → Post rs all → AL P ops cx Q rest ((d, mkRes (rs.map (·.sub (cpi q n)))) :: l) (obLM (cpi q n) 0 all ++ m) (n + (all.length - obs.length))) :
    AL P ops cx Q (⟨some d, .call { callee := .value (.func f), args := xs.toArray, argTypes := ats }, ty, pos, af, none⟩ :: rest) l m n := by
  rintro a w ⟨ρ, Z, hg⟩
  refine wpList_plain rfl fun K hK => ?_
  simp only [Bool.and_eq_true, List.all_eq_true] at hq
  have hql := hobs.len
  have hat := hobs.at
  have hlive : ∀ i, (obAt obs i).live = true → ∃ hi : i < q.length, (lk OB.gone m q[i]).live = true ∧ cpi q n i = q[i] := fun i h1 => by
    have hi : i < q.length := by
      rw [hql]
      rcases Nat.lt_or_ge i obs.length with h | h
      · exact h
      · rw [obAt, List.getD_eq_getElem?_getD, List.getElem?_eq_none h] at h1; cases h1
    exact ⟨hi, by rw [hat i hi, OB.live_sub]; exact h1, cpi_lo hi⟩
  have hent : Entry w (fun t => ρ (cpi q n t)) Z args obs (xs.map a.eval) := by
    refine ⟨ha.drl hg (fun _ h => h) (fun h => by cases h), fun i => ?_, fun i j g h1 h2 h3 h4 => ?_, fun i g h1 h2 => ?_, hg.zlt, hg.gl⟩
    · by_cases hi : i < q.length
      · have := hg.obj q[i]
        rw [hat i hi] at this
        have e := cpi_lo (n := n) hi
        rw [← e] at this
        exact DO.sub this
      · rw [obAt, List.getD_eq_getElem?_getD, List.getElem?_eq_none (by omega)]; trivial
    · obtain ⟨hi, b1, b2⟩ := hlive i h1
      obtain ⟨hj, c1, c2⟩ := hlive j h2
      rw [b2] at h3; rw [c2] at h4
      exact nodup_perm_lt hq.1 hi hj (hg.sep _ _ g b1 c1 h3 h4)
    · obtain ⟨hi, b1, b2⟩ := hlive i h1
      rw [b2] at h2
      exact (hg.out _ g b1 h2).1
  have hcall := hc.run w _ Z _ hent
  unfold Oper.wp
  have hexec : (execOp a.eval ⟨some d, .call { callee := .value (.func f), args := xs.toArray, argTypes := ats }, ty, pos, af, none⟩).run P w = .ok (.enter f (xs.map a.eval).toArray) w := by
    rw [execOp_call_go, run_callFunc hc.ok]
    simp
  rw [hexec, Oper.upon_enter]
  refine hcall.mono fun e w' ⟨rs, all, us, ρ', Z', hpost, hlen, he, hl⟩ => ?_
  subst he
  refine hK _ _ (k rs all hlen hpost _ _ ?_)
  have hG := hg.call hq.1 hql (fun t ht => blt_lt (hq.2 t ht)) hat hlen hl hl.zmono hl.znew hl.zlt (fun i g h1 h2 => (hl.out i g h1 h2).1) hl.res hl.objs (blt_lt hd)
  unfold St
  rw [lk_cons, ← lkf_lk]
  exact ⟨_, _, hG⟩

/-- A call by contract of a function that is handed no object. -/
theorem al_call {f : FuncId} {xs : List Operand} {ats : Array TypeId} {args : List AR} {Post : List AR → List OB → Prop} (hc : Con P f args [] Post)
    (ha : Args (lk .dead l) (lk .gone m) (cpi [] n) false xs args) (hd : Nat.blt d cx.N = true)
    (k : ∀ rs all, Post rs all → AL P ops cx Q rest ((d, mkRes (rs.map (·.sub (cpi [] n)))) :: l) (obLM (cpi [] n) 0 all ++ m) (n + all.length)) :
    AL P ops cx Q (⟨some d, .call { callee := .value (.func f), args := xs.toArray, argTypes := ats }, ty, pos, af, none⟩ :: rest) l m n :=
  al_call_m [] hc rfl trivial ha hd fun rs all _ h => k rs all h

def CV.flat : CV → Bool
  | .raw _ => true
  | _ => false
def A1.flat : A1 → Bool
  | .c x => x.flat
  | .imm _ => false
  | .fn _ _ _ => false
  | _ => true
def AR.flat : AR → Bool
  | .one x => x.flat
  | .agg xs => xs.all (·.flat)
def OB.flat : OB → Prop
  | .row _ _ rows => ∀ r ∈ rows, ∀ c ∈ r, CV.flat c = true
  | .froz .. => False
  | .box _ cells => cells.all (·.flat) = true
  | .gen _ cells => cells.all (·.flat) = true
  | _ => True

theorem D1.flat {ρ : Nat → Value} {Z Z' : Nat → Prop} {w : World} {x : A1} {v : Value} (h : D1 ρ Z w x v) (hf : x.flat = true) : D1 ρ Z' w x v := by
  cases x with
  | c x =>
    cases x with
    | raw u => cases h; exact DC.raw _ ‹_›
    | sl => cases hf
    | blk => cases hf
  | imm => cases hf
  | fn => cases hf
  | _ => exact h
theorem D1L.flat {ρ : Nat → Value} {Z Z' : Nat → Prop} {w : World} : ∀ {xs : List A1} {us : List Value}, D1L ρ Z w xs us → xs.all (·.flat) = true → D1L ρ Z' w xs us
  | [], [], _, _ => trivial
  | x :: xs, u :: us, h, hf => by
    simp only [List.all_cons, Bool.and_eq_true] at hf
    exact ⟨D1.flat h.1 hf.1, D1L.flat h.2 hf.2⟩
  | [], _ :: _, h, _ => h.elim
  | _ :: _, [], h, _ => h.elim
theorem DRL.flat {ρ : Nat → Value} {Z Z' : Nat → Prop} {w : World} : ∀ {xs : List AR} {us : List Value}, DRL ρ Z w xs us → xs.all (·.flat) = true → DRL ρ Z' w xs us
  | [], [], _, _ => trivial
  | x :: xs, u :: us, h, hf => by
    simp only [List.all_cons, Bool.and_eq_true] at hf
    refine ⟨?_, DRL.flat h.2 hf.2⟩
    cases x with
    | one x => exact D1.flat (x := x) h.1 hf.1
    | agg xs => obtain ⟨us, h1, h2⟩ := h.1; exact ⟨us, h1, D1L.flat h2 hf.1⟩
  | [], _ :: _, h, _ => h.elim
  | _ :: _, [], h, _ => h.elim
theorem DL.flat {Z Z' : Nat → Prop} {w : World} : ∀ {xs : List CV} {us : List Value}, DL Z w xs us → (∀ c ∈ xs, CV.flat c = true) → DL Z' w xs us
  | [], [], _, _ => trivial
  | x :: xs, u :: us, h, hf => by
    refine ⟨?_, DL.flat h.2 fun c hc => hf c (.tail _ hc)⟩
    have := hf x (.head _)
    cases x with
    | raw v =>
      have h1 := h.1
      cases h1
      exact DC.raw _ ‹_›
    | sl => cases this
    | blk => cases this
  | [], _ :: _, h, _ => h.elim
  | _ :: _, [], h, _ => h.elim
theorem DO.flat {ρ : Nat → Value} {Z Z' : Nat → Prop} {w : World} {t : Nat} {ob : OB} (h : DO ρ Z w t ob) (hf : ob.flat) : DO ρ Z' w t ob := by
  cases ob with
  | row wd e rows =>
    obtain ⟨h1, us, h2, h3⟩ := do_row.1 h
    exact do_row.2 ⟨h1, us, h2.flat (fun c hc => by obtain ⟨r, hr, hc⟩ := List.mem_flatten.1 hc; exact hf r hr c hc), h3⟩
  | froz => exact hf.elim
  | box e cells => obtain ⟨g, us, h1, h2, h3⟩ := h; exact ⟨g, us, h1, h2, D1L.flat h3 hf⟩
  | gen ok cells => obtain ⟨g, o, us, h1, h2, h3, h4⟩ := h; exact ⟨g, o, us, h1, h2, h3, D1L.flat h4 hf⟩
  | _ => exact h

section is
variable {P : Program} {ops : Array Oper} {cx : Cx} {Q : APost} {rest : List Oper} {l : SL} {m : OL} {n d : Nat} {ty : TypeId} {pos : String} {af : Array Edge} {x y z : Operand} {t t' : TypeId} {k : Nat}
theorem is_move (h : AL P ops cx Q (⟨some d, .move x, ty, pos, af, none⟩ :: rest) l m n) : AL P ops cx Q (⟨some d, .move x, ty, pos, af, none⟩ :: rest) l m n := h
theorem is_assign (h : AL P ops cx Q (⟨some d, .assign x, ty, pos, af, none⟩ :: rest) l m n) : AL P ops cx Q (⟨some d, .assign x, ty, pos, af, none⟩ :: rest) l m n := h
theorem is_pick (h : AL P ops cx Q (⟨some d, .pick x y z, ty, pos, af, none⟩ :: rest) l m n) : AL P ops cx Q (⟨some d, .pick x y z, ty, pos, af, none⟩ :: rest) l m n := h
theorem is_bin {op : BinOp} (h : AL P ops cx Q (⟨some d, .binOp op t x y t', ty, pos, af, none⟩ :: rest) l m n) : AL P ops cx Q (⟨some d, .binOp op t x y t', ty, pos, af, none⟩ :: rest) l m n := h
theorem is_load (h : AL P ops cx Q (⟨some d, .load t x, ty, pos, af, none⟩ :: rest) l m n) : AL P ops cx Q (⟨some d, .load t x, ty, pos, af, none⟩ :: rest) l m n := h
theorem is_fa (h : AL P ops cx Q (⟨some d, .fieldAddr t x k, ty, pos, af, none⟩ :: rest) l m n) : AL P ops cx Q (⟨some d, .fieldAddr t x k, ty, pos, af, none⟩ :: rest) l m n := h
theorem is_st (h : AL P ops cx Q (⟨none, .store t x y, ty, pos, af, none⟩ :: rest) l m n) : AL P ops cx Q (⟨none, .store t x y, ty, pos, af, none⟩ :: rest) l m n := h
theorem is_bi {b : Builtin} {args : Array Operand} {ats : Array TypeId} (h : AL P ops cx Q (⟨some d, .call { callee := .builtin b, args := args, argTypes := ats }, ty, pos, af, none⟩ :: rest) l m n) : AL P ops cx Q (⟨some d, .call { callee := .builtin b, args := args, argTypes := ats }, ty, pos, af, none⟩ :: rest) l m n := h
theorem is_gd {op : Op} {j : Nat} {want : Bool} (h : AL P ops cx Q (⟨some d, op, ty, pos, af, some (j, want)⟩ :: rest) l m n) : AL P ops cx Q (⟨some d, op, ty, pos, af, some (j, want)⟩ :: rest) l m n := h
theorem is_al {todo : List Oper} (h : AL P ops cx Q todo l m n) : AL P ops cx Q todo l m n := h
theorem is_aw {c : Code} (h : AW P cx c Q l m n) : AW P cx c Q l m n := h
theorem is_cond {c : Operand} {a b : Code} (h : AW P cx (.cond c a b) Q l m n) : AW P cx (.cond c a b) Q l m n := h
end is

section ends
variable {P : Program} {Post : List AR → List OB → Prop} {e : Exit} {l : SL} {m : OL} {n t t2 t3 u u2 : Nat}
def isEnd : Exit → Prop
  | .normal | .ret => True
  | _ => False
theorem retg_mk {vars : List ResultVar} {m0 : Nat} (he : isEnd e) (rs : List AR) (all : List OB) (p : List Nat) (hp : Post rs all) (h0 : m0 ≤ all.length) (h1 : nodupB p = true) (h2 : p.length = all.length) (h3 : pinB m0 p = true) (h4 : resTags rs all = true)
    (h5 : RetS P l m (perm p) vars rs) (h6 : LeO m (perm p) (obL 0 all)) : RetG P vars m0 Post e l m n := by
  refine ⟨?_, rs, all, p, hp, h0, h1, h2, h3, h4, h5, h6⟩
  cases e <;> first | trivial | exact he
theorem ret_raw {v : Value} (he : isEnd e) (h : lk .dead l t = .raw v) (hp : Post [.one (.c (.raw v))] []) : RetG P [.tmp t] 0 Post e l m n :=
  retg_mk he [_] [] [] hp (Nat.le_refl _) rfl rfl rfl rfl ⟨h, trivial⟩ trivial
theorem ret_row {wd : Nat} {el : TypeId} {rows : List (List CV)} (he : isEnd e) (h : lk .dead l t = .own u) (ho : lk .gone m u = .row wd el rows) (hp : Post [.one (.own 0)] [.row wd el rows]) : RetG P [.tmp t] 0 Post e l m n :=
  retg_mk he [_] [_] [u] hp (Nat.zero_le _) (by simp [nodupB]) rfl rfl rfl ⟨h, trivial⟩ ⟨ho, trivial⟩
theorem ret_row_raw {wd : Nat} {el : TypeId} {rows : List (List CV)} {v : Value} (he : isEnd e) (h : lk .dead l t = .own u) (ho : lk .gone m u = .row wd el rows) (h2 : lk .dead l t2 = .raw v) (hp : Post [.one (.own 0), .one (.c (.raw v))] [.row wd el rows]) :
    RetG P [.tmp t, .tmp t2] 0 Post e l m n :=
  retg_mk he [_, _] [_] [u] hp (Nat.zero_le _) (by simp [nodupB]) rfl rfl rfl ⟨h, h2, trivial⟩ ⟨ho, trivial⟩
theorem ret_struct {ty : TypeId} {el : TypeId} {cells : List A1} (he : isEnd e) (h : lk .dead l t = .ref u 0) (ho : lk .gone m u = .box el cells) (hs : strTy P ty = some cells.length) (hf : AR.tags (.agg cells) = []) (hsub : AR.sub (perm []) (.agg cells) = .agg cells) (hp : Post [.agg cells] []) : RetG P [.cell t ty] 0 Post e l m n :=
  retg_mk he [.agg cells] [] [] hp (Nat.le_refl _) rfl rfl rfl (by simp [resTags, hf]) ⟨⟨u, el, cells, h, ho, .inl ⟨hs, hsub⟩⟩, trivial⟩ trivial
/-- one object was handed over -/
theorem retm_raw {v : Value} {ob : OB} (he : isEnd e) (h : lk .dead l t = .raw v) (ho : lk .gone m 0 = ob.sub (perm [0])) (ht : resTags [.one (.c (.raw v))] [ob] = true) (hp : Post [.one (.c (.raw v))] [ob]) : RetG P [.tmp t] 1 Post e l m n :=
  retg_mk he [_] [ob] [0] hp (Nat.le_refl _) rfl rfl rfl ht ⟨h, trivial⟩ ⟨ho, trivial⟩
end ends
end
end Go.Proofs.Ytokhfcfnhgianaa

/-
  Groups of samples: the plain law.
-/
import Derived.Test.YtoalaimmgmehaaaPL
namespace Go.Proofs.Ytoalaimmgmehaaa
set_option linter.unusedVariables false
set_option linter.unusedSimpArgs false

abbrev Sm := List Lb × Int
/-! ### the order of texts -/
theorem bl_irr : ∀ x : Str, Op.bytesLess x x = false
  | [] => rfl
  | a :: x => by
    have := bl_irr x
    simp only [Op.bytesLess, this, Bool.and_false, Bool.or_false, decide_eq_false_iff_not]
    exact Nat.lt_irrefl _
theorem bl_trans : ∀ {x y z : Str}, Op.bytesLess x y = true → Op.bytesLess y z = true → Op.bytesLess x z = true
  | [], [], _, h, _ => by cases h
  | _ :: _, [], _, h, _ => by cases h
  | _, _ :: _, [], _, h => by cases h
  | [], _ :: _, _ :: _, _, _ => rfl
  | a :: x, b :: y, c :: z, h1, h2 => by
    have ih := @bl_trans x y z
    simp only [Op.bytesLess, Bool.or_eq_true, Bool.and_eq_true, decide_eq_true_eq, beq_iff_eq, UInt8.lt_iff_toNat_lt] at h1 h2 ⊢
    rcases h1 with h1 | ⟨rfl, h1⟩
    · rcases h2 with h2 | ⟨rfl, h2⟩
      · exact .inl (Nat.lt_trans h1 h2)
      · exact .inl h1
    · rcases h2 with h2 | ⟨rfl, h2⟩
      · exact .inl h2
      · exact .inr ⟨rfl, ih h1 h2⟩
theorem bl_tri : ∀ {x y : Str}, Op.bytesLess x y = false → Op.bytesLess y x = false → x = y
  | [], [], _, _ => rfl
  | [], _ :: _, h, _ => by cases h
  | _ :: _, [], _, h => by cases h
  | a :: x, b :: y, h1, h2 => by
    have ih := @bl_tri x y
    simp only [Op.bytesLess, Bool.or_eq_false_iff, Bool.and_eq_false_iff, decide_eq_false_iff_not, beq_eq_false_iff_ne, UInt8.lt_iff_toNat_lt] at h1 h2
    have e : a = b := UInt8.toNat_inj.1 (by omega)
    subst e
    rcases h1.2 with h | h
    · exact absurd rfl h
    · rcases h2.2 with h' | h'
      · exact absurd rfl h'
      · rw [ih h h']
theorem sle_f {x y : Str} : sle x y = false ↔ Op.bytesLess y x = true := by
  unfold sle
  constructor
  · intro h
    simp only [Bool.or_eq_false_iff, beq_eq_false_iff_ne] at h
    cases hb : Op.bytesLess y x with
    | true => rfl
    | false => exact absurd (bl_tri h.1 hb) h.2
  · intro h
    simp only [Bool.or_eq_false_iff, beq_eq_false_iff_ne]
    refine ⟨?_, ?_⟩
    · cases hb : Op.bytesLess x y with
      | false => rfl
      | true => have := bl_trans h hb; rw [bl_irr] at this; cases this
    · rintro rfl
      rw [bl_irr] at h; cases h
/-! ### labels in order -/
theorem VL_iff {l : List Lb} : VL l ↔ l.length ≤ 4 ∧ (∀ x ∈ l, vw x.1 ∧ vw x.2) ∧ l.Pairwise fun a b => Op.bytesLess a.1 b.1 = true := by
  constructor
  · intro h
    refine ⟨h.1, fun x hx => VL_mem h hx, ?_⟩
    have key : ∀ d i (hi : i + d + 1 < l.length), Op.bytesLess (l[i]'(by omega)).1 (l[i + d + 1]'hi).1 = true := by
      intro d
      induction d with
      | zero =>
        intro i hi
        have := (h.2 (i + 1) (l[i + 1]) (List.getElem?_eq_getElem hi)).2.2 (l[i]'(by omega)) (by omega) (List.getElem?_eq_getElem (by omega))
        exact sle_f.1 this
      | succ d ih =>
        intro i hi
        have h1 := ih i (by omega)
        have := (h.2 (i + (d + 1) + 1) (l[i + (d + 1) + 1]) (List.getElem?_eq_getElem hi)).2.2 (l[i + d + 1]'(by omega)) (by omega) (List.getElem?_eq_getElem (by omega))
        exact bl_trans h1 (sle_f.1 this)
    rw [List.pairwise_iff_getElem]
    intro i j hi hj hij
    have := key (j - i - 1) i (by omega)
    simpa [show i + (j - i - 1) + 1 = j by omega] using this
  · rintro ⟨h1, h2, h3⟩
    refine ⟨h1, fun k x hx => ?_⟩
    obtain ⟨a1, a2⟩ := h2 x (List.mem_of_getElem? hx)
    refine ⟨a1, a2, fun y hk hy => sle_f.2 ?_⟩
    obtain ⟨hk1, rfl⟩ := List.getElem?_eq_some_iff.1 hx
    obtain ⟨hk2, rfl⟩ := List.getElem?_eq_some_iff.1 hy
    exact List.pairwise_iff_getElem.1 h3 (k - 1) k hk2 hk1 (by omega)
theorem VL_sub {l m : List Lb} (h : VL l) (hs : m.Sublist l) : VL m := by
  rw [VL_iff] at h ⊢
  exact ⟨Nat.le_trans hs.length_le h.1, fun x hx => h.2.1 x (hs.subset hx), h.2.2.sublist hs⟩
theorem VL_nil : VL [] := ⟨Nat.zero_le _, fun k x hx => by simp at hx⟩
/-! ### which labels come first -/
def cmpL : List Lb → List Lb → Int
  | x :: a, y :: b => if Op.bytesLess x.1 y.1 = true then -1 else if sle x.1 y.1 = false then 1 else if Op.bytesLess x.2 y.2 = true then -1 else if sle x.2 y.2 = false then 1 else cmpL a b
  | a, b => (if b.length < a.length then 1 else 0) - (if a.length < b.length then 1 else 0)
theorem cmp_eq {x y : Str} (h1 : ¬ Op.bytesLess x y = true) (h2 : ¬ sle x y = false) : x = y := by
  rw [sle_f] at h2
  exact bl_tri (by simpa using h1) (by simpa using h2)
theorem cmpL_self : ∀ l : List Lb, cmpL l l = 0
  | [] => rfl
  | x :: l => by
    have h1 := bl_irr x.1
    have h2 := bl_irr x.2
    have h3 : sle x.1 x.1 = true := by simp [sle]
    have h4 : sle x.2 x.2 = true := by simp [sle]
    simp [cmpL, h1, h2, h3, h4, cmpL_self l]
theorem cmpL_zero : ∀ {a b : List Lb}, cmpL a b = 0 → a = b
  | [], [], _ => rfl
  | [], y :: b, h => by simp [cmpL] at h
  | x :: a, [], h => by simp [cmpL] at h
  | x :: a, y :: b, h => by
    simp only [cmpL] at h
    split at h
    · omega
    · rename_i h1
      split at h
      · omega
      · rename_i h2
        split at h
        · omega
        · rename_i h3
          split at h
          · omega
          · rename_i h4
            rw [cmpL_zero h]
            exact congrArg (· :: b) (Prod.ext (cmp_eq h1 h2) (cmp_eq h3 h4))
theorem cmpL_iff {a b : List Lb} : cmpL a b = 0 ↔ a = b := ⟨cmpL_zero, fun h => by rw [h]; exact cmpL_self b⟩
/-! ### some labels -/
def keepL (ns : List Str) (l : List Lb) : List Lb := l.filter fun x => ns.contains x.1
theorem keep_take {ns : List Str} {l : List Lb} {k : Nat} {x : Lb} (h : l[k]? = some x) : keepL ns (l.take (k + 1)) = keepL ns (l.take k) ++ (if ns.contains x.1 = true then [x] else []) := by
  rw [keepL, List.take_add_one, h, List.filter_append, ← keepL]
  congr 1
  simp [List.filter_cons]
theorem keep_len {ns : List Str} {l : List Lb} : (keepL ns l).length ≤ l.length := List.length_filter_le _ _
theorem VL_keep {ns : List Str} {l : List Lb} (h : VL l) : VL (keepL ns l) := VL_sub h List.filter_sublist
theorem keep_nil {l : List Lb} : keepL [] l = [] := by simp [keepL]
theorem keep_keep {ns ms : List Str} {l : List Lb} (h : ∀ x ∈ ns, x ∈ ms) : keepL ns (keepL ms l) = keepL ns l := by
  rw [keepL, keepL, keepL, List.filter_filter]
  refine List.filter_congr fun x _ => ?_
  rw [Bool.eq_iff_iff]
  simp only [Bool.and_eq_true, List.contains_iff_mem]
  exact ⟨fun h => h.1, fun h1 => ⟨h1, h _ h1⟩⟩
theorem keep_all {ns : List Str} {l : List Lb} (h : ∀ x ∈ l, x.1 ∈ ns) : keepL ns l = l := List.filter_eq_self.2 fun x hx => by simpa using h x hx
/-! ### samples -/
def pos (l : List Sm) (k : List Lb) : Nat := l.findIdx fun s => decide (s.1 = k)
theorem pos_le {l : List Sm} {k : List Lb} : pos l k ≤ l.length := List.findIdx_le_length
theorem pos_at {l : List Sm} {k : List Lb} (h : pos l k < l.length) : ∃ v, l[pos l k]? = some (k, v) := by
  have := List.findIdx_getElem (p := fun s : Sm => decide (s.1 = k)) (xs := l) (w := h)
  have e : (l[pos l k]'h).1 = k := of_decide_eq_true this
  refine ⟨(l[pos l k]'h).2, ?_⟩
  rw [List.getElem?_eq_getElem h]
  exact congrArg some (Prod.ext e rfl)
theorem pos_not {l : List Sm} {k : List Lb} {j : Nat} {s : Sm} (hj : j < pos l k) (hs : l[j]? = some s) : s.1 ≠ k := by
  obtain ⟨h1, rfl⟩ := List.getElem?_eq_some_iff.1 hs
  have := List.not_of_lt_findIdx hj
  simpa using this
theorem pos_lt {l : List Sm} {k : List Lb} : pos l k < l.length ↔ k ∈ l.map (·.1) := by
  rw [pos, List.findIdx_lt_length]
  simp only [decide_eq_true_eq, List.mem_map]
theorem pos_eq {l : List Sm} {k : List Lb} {j : Nat} (h1 : ∀ i s, i < j → l[i]? = some s → s.1 ≠ k) (h2 : ∀ s, l[j]? = some s → s.1 = k) (h3 : j ≤ l.length) : pos l k = j := by
  rcases Nat.lt_trichotomy (pos l k) j with h | h | h
  · obtain ⟨v, hv⟩ := pos_at (l := l) (k := k) (by omega)
    exact absurd rfl (h1 _ _ h hv)
  · exact h
  · have hl : j < l.length := Nat.lt_of_lt_of_le h pos_le
    exact absurd (h2 _ (List.getElem?_eq_getElem hl)) (pos_not h (List.getElem?_eq_getElem hl))
def smOk (l : List Sm) (k : Nat) : Prop := ∀ s, l[k]? = some s → VL s.1 ∧ -1000 ≤ s.2 ∧ s.2 ≤ 1000 ∧ ∀ j t, j < k → l[j]? = some t → t.1 ≠ s.1
def VSm (l : List Sm) : Prop := l.length ≤ 8 ∧ ∀ k, smOk l k
open Classical in
noncomputable def vsmB (l : List Sm) : Bool := decide (VSm l)
open Classical in
theorem vsmB_t {l : List Sm} (h : VSm l) : vsmB l = true := by unfold vsmB; exact decide_eq_true h
open Classical in
theorem vsmB_f {l : List Sm} (h : ¬ VSm l) : vsmB l = false := by unfold vsmB; exact decide_eq_false h
open Classical in
theorem vsmB_of {l : List Sm} (h : vsmB l = true) : VSm l := by unfold vsmB at h; exact of_decide_eq_true h
theorem VSm_mem {l : List Sm} (h : VSm l) {s : Sm} (hs : s ∈ l) : VL s.1 ∧ -1000 ≤ s.2 ∧ s.2 ≤ 1000 := by
  obtain ⟨k, hk⟩ := List.mem_iff_getElem?.1 hs
  have := h.2 k s hk
  exact ⟨this.1, this.2.1, this.2.2.1⟩
theorem VSm_nodup {l : List Sm} (h : VSm l) : (l.map (·.1)).Nodup := by
  rw [List.Nodup, List.pairwise_map, List.pairwise_iff_getElem]
  intro i j hi hj hij
  exact (h.2 j _ (List.getElem?_eq_getElem hj)).2.2.2 i _ hij (List.getElem?_eq_getElem hi)
theorem VSm_mk {l : List Sm} (h1 : l.length ≤ 8) (h2 : ∀ s ∈ l, VL s.1 ∧ -1000 ≤ s.2 ∧ s.2 ≤ 1000) (h3 : (l.map (·.1)).Nodup) : VSm l := by
  refine ⟨h1, fun k s hs => ?_⟩
  obtain ⟨a, b, c⟩ := h2 s (List.mem_of_getElem? hs)
  refine ⟨a, b, c, fun j t hj ht => ?_⟩
  rw [List.Nodup, List.pairwise_map, List.pairwise_iff_getElem] at h3
  obtain ⟨hk, rfl⟩ := List.getElem?_eq_some_iff.1 hs
  obtain ⟨hj', rfl⟩ := List.getElem?_eq_some_iff.1 ht
  exact h3 j k hj' hk hj
/-! ### groups -/
def foldV (kind : Int) (a v : Int) : Int := if kind = 0 then a + v else if kind = 1 then min a v else if kind = 2 then max a v else a + 1
def fstV (kind : Int) (v : Int) : Int := if kind = 3 then 1 else v
def upd (kind : Int) (out : List Sm) (k : List Lb) (v : Int) : List Sm :=
  match out[pos out k]? with
  | some t => out.set (pos out k) (k, foldV kind t.2 v)
  | none => out ++ [(k, fstV kind v)]
theorem upd_old {kind : Int} {out : List Sm} {k : List Lb} {v a : Int} (h : out[pos out k]? = some (k, a)) : upd kind out k v = out.set (pos out k) (k, foldV kind a v) := by rw [upd, h]
theorem upd_new {kind : Int} {out : List Sm} {k : List Lb} {v : Int} (h : ¬ pos out k < out.length) : upd kind out k v = out ++ [(k, fstV kind v)] := by
  rw [upd, List.getElem?_eq_none (by omega)]
def gst (ns : List Str) (kind : Int) (out : List Sm) (s : Sm) : List Sm := upd kind out (keepL ns s.1) s.2
def grp (ns : List Str) (kind : Int) (l : List Sm) : List Sm := l.foldl (gst ns kind) []
theorem grp_take {ns : List Str} {kind : Int} {l : List Sm} {k : Nat} {s : Sm} (h : l[k]? = some s) : grp ns kind (l.take (k + 1)) = upd kind (grp ns kind (l.take k)) (keepL ns s.1) s.2 := by
  rw [grp, List.take_add_one, h, List.foldl_append]; rfl
theorem grp_snoc {ns : List Str} {kind : Int} {l : List Sm} {s : Sm} : grp ns kind (l ++ [s]) = upd kind (grp ns kind l) (keepL ns s.1) s.2 := by
  rw [grp, List.foldl_append]; rfl
theorem map_set_same {out : List Sm} {i : Nat} {k : List Lb} {a b : Int} (h : out[i]? = some (k, a)) : (out.set i (k, b)).map (·.1) = out.map (·.1) := by
  apply List.ext_getElem?
  intro j
  rw [List.getElem?_map, List.getElem?_map, List.getElem?_set]
  by_cases hj : i = j
  · subst hj
    have := (List.getElem?_eq_some_iff.1 h).1
    rw [if_pos rfl, if_pos this, h]; rfl
  · rw [if_neg hj]
theorem upd_keys {kind : Int} {out : List Sm} {k : List Lb} {v : Int} : (upd kind out k v).map (·.1) = if k ∈ out.map (·.1) then out.map (·.1) else out.map (·.1) ++ [k] := by
  by_cases h : pos out k < out.length
  · obtain ⟨a, ha⟩ := pos_at h
    rw [if_pos (pos_lt.1 h), upd_old ha, map_set_same ha]
  · rw [if_neg (fun hm => h (pos_lt.2 hm)), upd_new h, List.map_append]; rfl
theorem upd_len {kind : Int} {out : List Sm} {k : List Lb} {v : Int} : (upd kind out k v).length ≤ out.length + 1 := by
  have := congrArg List.length (upd_keys (kind := kind) (out := out) (k := k) (v := v))
  rw [List.length_map] at this
  rw [this]
  split <;> simp
theorem grp_len {ns : List Str} {kind : Int} {l : List Sm} : (grp ns kind l).length ≤ l.length := by
  suffices ∀ (l : List Sm) (out : List Sm), (l.foldl (gst ns kind) out).length ≤ out.length + l.length by have := this l []; rw [List.length_nil, Nat.zero_add] at this; exact this
  intro l
  induction l with
  | nil => intro out; simp
  | cons s l ih =>
    intro out
    have h1 := ih (gst ns kind out s)
    have h2 : (gst ns kind out s).length ≤ out.length + 1 := upd_len
    simp only [List.foldl_cons, List.length_cons]; omega
/-- Induction along what has been grouped. -/
theorem grp_ind {ns : List Str} {kind : Int} {P : List Sm → List Sm → Prop} (h0 : P [] []) (hs : ∀ l s, P l (grp ns kind l) → P (l ++ [s]) (upd kind (grp ns kind l) (keepL ns s.1) s.2)) (l : List Sm) : P l (grp ns kind l) := by
  suffices ∀ n, ∀ l : List Sm, l.length = n → P l (grp ns kind l) from this l.length l rfl
  intro n
  induction n with
  | zero => intro l hl; obtain rfl := List.eq_nil_of_length_eq_zero hl; exact h0
  | succ n ih =>
    intro l hl
    rcases List.eq_nil_or_concat l with rfl | ⟨l', s, rfl⟩
    · cases hl
    · rw [List.concat_eq_append] at hl ⊢
      rw [grp_snoc]
      exact hs l' s (ih l' (by simpa using hl))
theorem grp_nodup {ns : List Str} {kind : Int} (l : List Sm) : ((grp ns kind l).map (·.1)).Nodup := by
  refine grp_ind (P := fun _ o => (o.map (·.1)).Nodup) (by simp) (fun l s h => ?_) l
  rw [upd_keys]
  split
  · exact h
  · rename_i hn
    exact List.nodup_append.2 ⟨h, by simp, fun a ha b hb => by simp at hb; subst hb; rintro rfl; exact hn ha⟩
theorem grp_VL {ns : List Str} {kind : Int} (l : List Sm) (h : ∀ s ∈ l, VL s.1) : ∀ t ∈ grp ns kind l, VL t.1 := by
  have key := grp_ind (ns := ns) (kind := kind) (P := fun l o => (∀ s ∈ l, VL s.1) → ∀ k ∈ o.map (·.1), VL k) (by simp) (fun l s ih hl k hk => by
    rw [upd_keys] at hk
    have ih := ih fun s hs => hl s (List.mem_append_left _ hs)
    split at hk
    · exact ih k hk
    · rcases List.mem_append.1 hk with hk | hk
      · exact ih k hk
      · simp at hk
        subst hk
        exact VL_keep (hl s (by simp))) l h
  exact fun t ht => key t.1 (List.mem_map.2 ⟨t, ht, rfl⟩)
/-- The keys do not hang on the kind. -/
theorem grp_keys {ns : List Str} {kind kind' : Int} (l : List Sm) : (grp ns kind l).map (·.1) = (grp ns kind' l).map (·.1) := by
  refine grp_ind (ns := ns) (kind := kind) (P := fun l o => o.map (·.1) = (grp ns kind' l).map (·.1)) rfl (fun l s ih => ?_) l
  rw [grp_snoc, upd_keys, upd_keys, ih]
theorem grp_mem {ns : List Str} {kind : Int} (l : List Sm) : ∀ s ∈ l, keepL ns s.1 ∈ (grp ns kind l).map (·.1) := by
  refine grp_ind (ns := ns) (kind := kind) (P := fun l o => ∀ s ∈ l, keepL ns s.1 ∈ o.map (·.1)) (fun s hs => by cases hs) (fun l s ih t ht => ?_) l
  rw [upd_keys]
  rcases List.mem_append.1 ht with ht | ht
  · split
    · exact ih t ht
    · exact List.mem_append_left _ (ih t ht)
  · simp at ht
    subst ht
    split
    · assumption
    · simp
end Go.Proofs.Ytoalaimmgmehaaa

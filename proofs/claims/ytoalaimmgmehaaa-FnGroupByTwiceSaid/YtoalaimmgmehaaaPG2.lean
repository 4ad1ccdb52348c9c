/-
  Groups of samples: the laws, plain.
-/
import Derived.Test.YtoalaimmgmehaaaPG
namespace Go.Proofs.Ytoalaimmgmehaaa
set_option linter.unusedVariables false
set_option linter.unusedSimpArgs false

def updR (kind : Int) : List Sm → List Lb → Int → List Sm
  | [], k, v => [(k, fstV kind v)]
  | t :: out, k, v => if t.1 = k then (k, foldV kind t.2 v) :: out else t :: updR kind out k v
theorem pos_cons {t : Sm} {out : List Sm} {k : List Lb} : pos (t :: out) k = if t.1 = k then 0 else pos out k + 1 := by
  rw [pos, List.findIdx_cons, pos]
  by_cases h : t.1 = k
  · rw [if_pos h, decide_eq_true h]; rfl
  · rw [if_neg h, decide_eq_false h]; rfl
theorem upd_eq {kind : Int} : ∀ {out : List Sm} {k : List Lb} {v : Int}, upd kind out k v = updR kind out k v
  | [], k, v => rfl
  | t :: out, k, v => by
    have ih := upd_eq (kind := kind) (out := out) (k := k) (v := v)
    by_cases h : t.1 = k
    · have hp : pos (t :: out) k = 0 := by rw [pos_cons, if_pos h]
      rw [updR, if_pos h, upd, hp]; rfl
    · have hp : pos (t :: out) k = pos out k + 1 := by rw [pos_cons, if_neg h]
      rw [updR, if_neg h, ← ih, upd, hp, upd]
      simp only [List.getElem?_cons_succ]
      cases out[pos out k]? <;> rfl
theorem updR_two {out : List Sm} {k : List Lb} {a v : Int} : updR 2 (updR 2 out k a) k v = updR 2 out k (max a v) := by
  induction out with
  | nil => simp [updR, fstV, foldV]
  | cons t out ih =>
    by_cases h : t.1 = k
    · simp [updR, h, foldV, Int.max_assoc]
    · simp [updR, h, ih]
theorem updR_comm {out : List Sm} {k k' : List Lb} {v v' : Int} (hk : k ∈ out.map (·.1)) : updR 2 (updR 2 out k v) k' v' = updR 2 (updR 2 out k' v') k v := by
  induction out with
  | nil => cases hk
  | cons t out ih =>
    by_cases h : t.1 = k
    · by_cases h' : t.1 = k'
      · have e : k = k' := h.symm.trans h'
        subst e
        simp only [updR, if_pos h, foldV]
        simp only [if_pos trivial]
        congr 2
        simp; omega
      · have e : k ≠ k' := fun e => h' (h.trans e)
        simp [updR, h, h', e]
    · by_cases h' : t.1 = k'
      · have e : k' ≠ k := fun e => h (h'.trans e)
        simp [updR, h, h', e]
      · have hk' : k ∈ out.map (·.1) := by
          rw [List.map_cons] at hk
          rcases List.mem_cons.1 hk with hk | hk
          · exact absurd hk.symm h
          · exact hk
        simp [updR, h, h', ih hk']
theorem updR_has {kind : Int} {out : List Sm} {k k' : List Lb} {v : Int} (h : k ∈ out.map (·.1)) : k ∈ (updR kind out k' v).map (·.1) := by
  rw [← upd_eq, upd_keys]
  split
  · exact h
  · exact List.mem_append_left _ h
theorem updR_in {kind : Int} {out : List Sm} {k : List Lb} {v : Int} : k ∈ (updR kind out k v).map (·.1) := by
  rw [← upd_eq, upd_keys]
  split
  · assumption
  · simp
theorem gst_eq {ns : List Str} {kind : Int} {out : List Sm} {s : Sm} : gst ns kind out s = updR kind out (keepL ns s.1) s.2 := upd_eq
theorem push_last {ns : List Str} {k : List Lb} {v : Int} : ∀ {ys out : List Sm}, k ∈ out.map (·.1) → ys.foldl (gst ns 2) (updR 2 out k v) = updR 2 (ys.foldl (gst ns 2) out) k v
  | [], _, _ => rfl
  | y :: ys, out, h => by
    rw [List.foldl_cons, List.foldl_cons, gst_eq, gst_eq, updR_comm h]
    exact push_last (updR_has h)
theorem set_split {α : Type} {o : List α} {p : Nat} {x y : α} (h : o[p]? = some x) : ∃ xs ys, o = xs ++ x :: ys ∧ o.set p y = xs ++ y :: ys := by
  obtain ⟨hp, rfl⟩ := List.getElem?_eq_some_iff.1 h
  refine ⟨o.take p, o.drop (p + 1), ?_, ?_⟩
  · rw [← List.drop_eq_getElem_cons hp, List.take_append_drop]
  · rw [List.set_eq_take_append_cons_drop, if_pos hp]
/-- Groups of groups. -/
theorem grp_grp {ns ms : List Str} (hn : ∀ x ∈ ns, x ∈ ms) (l : List Sm) : grp ns 2 (grp ms 2 l) = grp ns 2 l := by
  refine grp_ind (ns := ms) (kind := 2) (P := fun l o => grp ns 2 o = grp ns 2 l) rfl (fun l s ih => ?_) l
  rw [grp_snoc, ← ih]
  have hkk : keepL ns (keepL ms s.1) = keepL ns s.1 := keep_keep hn
  generalize grp ms 2 l = o
  by_cases hp : pos o (keepL ms s.1) < o.length
  · obtain ⟨a, ha⟩ := pos_at hp
    rw [upd_old ha]
    obtain ⟨xs, ys, h1, h2⟩ := set_split (y := (keepL ms s.1, foldV 2 a s.2)) ha
    rw [h2, h1, grp, grp, List.foldl_append, List.foldl_append, List.foldl_cons, List.foldl_cons, gst_eq, gst_eq, upd_eq]
    dsimp only
    rw [hkk, show foldV 2 a s.2 = max a s.2 from rfl, ← updR_two, push_last updR_in]
  · rw [upd_new hp, grp_snoc]
    dsimp only
    rw [hkk]; rfl
/-! ### sums -/
def sumV (l : List Sm) : Int := (l.map (·.2)).sum
theorem sumV_take {l : List Sm} {k : Nat} {s : Sm} (h : l[k]? = some s) : sumV (l.take (k + 1)) = sumV (l.take k) + s.2 := by
  rw [sumV, List.take_add_one, h, List.map_append, List.sum_append, ← sumV]; simp
theorem sumV_upd0 {out : List Sm} {k : List Lb} {v : Int} : sumV (updR 0 out k v) = sumV out + v := by
  induction out with
  | nil => simp [updR, sumV, fstV]
  | cons t out ih =>
    by_cases h : t.1 = k
    · simp [updR, h, sumV, foldV]; omega
    · simp [updR, h, sumV] at ih ⊢; omega
theorem sumV_upd3 {out : List Sm} {k : List Lb} {v : Int} : sumV (updR 3 out k v) = sumV out + 1 := by
  induction out with
  | nil => simp [updR, sumV, fstV]
  | cons t out ih =>
    by_cases h : t.1 = k
    · simp [updR, h, sumV, foldV]; omega
    · simp [updR, h, sumV] at ih ⊢; omega
theorem grp_sum {ns : List Str} (l : List Sm) : sumV (grp ns 0 l) = sumV l := by
  refine grp_ind (ns := ns) (kind := 0) (P := fun l o => sumV o = sumV l) rfl (fun l s ih => ?_) l
  rw [upd_eq, sumV_upd0, ih, sumV, sumV, List.map_append, List.sum_append]; simp
theorem grp_cnt {ns : List Str} (l : List Sm) : sumV (grp ns 3 l) = l.length := by
  refine grp_ind (ns := ns) (kind := 3) (P := fun l o => sumV o = l.length) rfl (fun l s ih => ?_) l
  rw [upd_eq, sumV_upd3, ih, List.length_append]; simp
theorem sumV_in {l : List Sm} {B : Nat} (h : ∀ s ∈ l, -(B : Int) ≤ s.2 ∧ s.2 ≤ B) : -((B * l.length : Nat) : Int) ≤ sumV l ∧ sumV l ≤ ((B * l.length : Nat) : Int) := by
  induction l with
  | nil => simp [sumV]
  | cons s l ih =>
    have h1 := h s (.head _)
    have h2 := ih fun t ht => h t (.tail _ ht)
    have e : sumV (s :: l) = s.2 + sumV l := by simp [sumV]
    rw [e, List.length_cons, Nat.mul_add]
    omega
/-! ### least and greatest -/
theorem updR_all {kind : Int} {P : Int → Prop} {out : List Sm} {k : List Lb} {v : Int} (h : ∀ t ∈ out, P t.2) (h1 : P (fstV kind v)) (h2 : ∀ a, P a → P (foldV kind a v)) : ∀ t ∈ updR kind out k v, P t.2 := by
  induction out with
  | nil => intro t ht; simp [updR] at ht; subst ht; exact h1
  | cons s out ih =>
    intro t ht
    have ih := ih fun t ht => h t (.tail _ ht)
    rw [updR] at ht
    split at ht
    · rcases List.mem_cons.1 ht with rfl | ht
      · exact h2 _ (h s (.head _))
      · exact h t (.tail _ ht)
    · rcases List.mem_cons.1 ht with rfl | ht
      · exact h t (.head _)
      · exact ih t ht
theorem grp_most_in {ns : List Str} (l : List Sm) (h : ∀ s ∈ l, -1000 ≤ s.2 ∧ s.2 ≤ 1000) : ∀ t ∈ grp ns 2 l, -1000 ≤ t.2 ∧ t.2 ≤ 1000 := by
  refine grp_ind (ns := ns) (kind := 2) (P := fun l o => (∀ s ∈ l, -1000 ≤ s.2 ∧ s.2 ≤ 1000) → ∀ t ∈ o, -1000 ≤ t.2 ∧ t.2 ≤ 1000) (fun _ t ht => by cases ht) (fun l s ih hl => ?_) l h
  have hs := hl s (by simp)
  rw [upd_eq]
  exact updR_all (P := fun x => -1000 ≤ x ∧ x ≤ 1000) (ih fun t ht => hl t (List.mem_append_left _ ht)) hs (fun a ha => by show _ ≤ max a s.2 ∧ max a s.2 ≤ _; omega)
theorem updR_mem {kind : Int} {out : List Sm} {k : List Lb} {v : Int} (hn : (out.map (·.1)).Nodup) : ∀ t ∈ updR kind out k v, (t ∈ out ∧ t.1 ≠ k) ∨ (t.1 = k ∧ ((∃ a, (k, a) ∈ out ∧ t.2 = foldV kind a v) ∨ (k ∉ out.map (·.1) ∧ t.2 = fstV kind v))) := by
  induction out with
  | nil => intro t ht; simp [updR] at ht; subst ht; exact .inr ⟨rfl, .inr ⟨by simp, rfl⟩⟩
  | cons s out ih =>
    rw [List.map_cons, List.nodup_cons] at hn
    have ih := ih hn.2
    intro t ht
    rw [updR] at ht
    split at ht
    · rename_i h
      rcases List.mem_cons.1 ht with rfl | ht
      · exact .inr ⟨rfl, .inl ⟨s.2, by rw [← h]; exact .head _, rfl⟩⟩
      · refine .inl ⟨.tail _ ht, fun e => hn.1 ?_⟩
        rw [h, ← e]
        exact List.mem_map.2 ⟨t, ht, rfl⟩
    · rename_i h
      rcases List.mem_cons.1 ht with rfl | ht
      · exact .inl ⟨.head _, h⟩
      · rcases ih t ht with ⟨h1, h2⟩ | ⟨h1, h2⟩
        · exact .inl ⟨.tail _ h1, h2⟩
        · refine .inr ⟨h1, ?_⟩
          rcases h2 with ⟨a, h3, h4⟩ | ⟨h3, h4⟩
          · exact .inl ⟨a, .tail _ h3, h4⟩
          · refine .inr ⟨fun hm => ?_, h4⟩
            rw [List.map_cons] at hm
            rcases List.mem_cons.1 hm with hm | hm
            · exact h hm.symm
            · exact h3 hm
theorem grp_low {ns : List Str} (l : List Sm) : ∀ s ∈ l, ∀ t ∈ grp ns 1 l, t.1 = keepL ns s.1 → t.2 ≤ s.2 := by
  refine grp_ind (ns := ns) (kind := 1) (P := fun l o => ∀ s ∈ l, ∀ t ∈ o, t.1 = keepL ns s.1 → t.2 ≤ s.2) (fun s hs => by cases hs) (fun l z ih s hs t ht he => ?_) l
  rw [upd_eq] at ht
  have hm := grp_mem (ns := ns) (kind := 1) l
  rcases updR_mem (grp_nodup l) t ht with ⟨h1, h2⟩ | ⟨h1, h2⟩
  · rcases List.mem_append.1 hs with hs | hs
    · exact ih s hs t h1 he
    · simp at hs; subst hs; exact absurd he h2
  · rcases h2 with ⟨a, h3, h4⟩ | ⟨h3, h4⟩
    · have h4' : t.2 = min a z.2 := h4
      rcases List.mem_append.1 hs with hs | hs
      · have := ih s hs _ h3 (h1.symm.trans he)
        dsimp only at this
        omega
      · simp at hs; subst hs; omega
    · have h4' : t.2 = z.2 := h4
      rcases List.mem_append.1 hs with hs | hs
      · exact absurd (hm s hs) (by rw [← he, h1]; exact h3)
      · simp at hs; subst hs; omega
theorem grp_high {ns : List Str} (l : List Sm) : ∀ s ∈ l, ∀ t ∈ grp ns 2 l, t.1 = keepL ns s.1 → s.2 ≤ t.2 := by
  refine grp_ind (ns := ns) (kind := 2) (P := fun l o => ∀ s ∈ l, ∀ t ∈ o, t.1 = keepL ns s.1 → s.2 ≤ t.2) (fun s hs => by cases hs) (fun l z ih s hs t ht he => ?_) l
  rw [upd_eq] at ht
  have hm := grp_mem (ns := ns) (kind := 2) l
  rcases updR_mem (grp_nodup l) t ht with ⟨h1, h2⟩ | ⟨h1, h2⟩
  · rcases List.mem_append.1 hs with hs | hs
    · exact ih s hs t h1 he
    · simp at hs; subst hs; exact absurd he h2
  · rcases h2 with ⟨a, h3, h4⟩ | ⟨h3, h4⟩
    · have h4' : t.2 = max a z.2 := h4
      rcases List.mem_append.1 hs with hs | hs
      · have := ih s hs _ h3 (h1.symm.trans he)
        dsimp only at this
        omega
      · simp at hs; subst hs; omega
    · have h4' : t.2 = z.2 := h4
      rcases List.mem_append.1 hs with hs | hs
      · exact absurd (hm s hs) (by rw [← he, h1]; exact h3)
      · simp at hs; subst hs; omega
/-! ### lengths -/
theorem grp_none {kind : Int} (l : List Sm) : (grp [] kind l).length = min 1 l.length := by
  have key : (grp [] kind l).map (·.1) = if l = [] then [] else [[]] := by
    refine grp_ind (ns := []) (kind := kind) (P := fun l o => o.map (·.1) = if l = [] then [] else [[]]) rfl (fun l s ih => ?_) l
    rw [upd_keys, keep_nil, ih]
    by_cases h : l = []
    · subst h; rfl
    · simp [h]
  have := congrArg List.length key
  rw [List.length_map] at this
  rw [this]
  cases l with
  | nil => rfl
  | cons s l => rw [if_neg (by simp), List.length_cons]; simp
theorem grp_full {ns : List Str} {kind : Int} (l : List Sm) (hn : (l.map (·.1)).Nodup) (h : ∀ s ∈ l, keepL ns s.1 = s.1) : (grp ns kind l).map (·.1) = l.map (·.1) := by
  refine grp_ind (ns := ns) (kind := kind) (P := fun l o => (l.map (·.1)).Nodup → (∀ s ∈ l, keepL ns s.1 = s.1) → o.map (·.1) = l.map (·.1)) (fun _ _ => rfl) (fun l s ih hn hs => ?_) l hn h
  rw [List.map_append] at hn ⊢
  obtain ⟨n1, n2, n3⟩ := List.nodup_append.1 hn
  rw [upd_keys, ih n1 fun t ht => hs t (List.mem_append_left _ ht), hs s (by simp), if_neg]
  · rfl
  · exact fun hm => n3 _ hm s.1 (by simp) rfl
theorem grp_pos {ns : List Str} {kind : Int} {l : List Sm} (h : 0 < l.length) : 0 < (grp ns kind l).length := by
  obtain ⟨s, hs⟩ : ∃ s, s ∈ l := ⟨_, List.getElem_mem h⟩
  have := List.length_pos_of_mem (grp_mem (ns := ns) (kind := kind) l s hs)
  simpa using this
end Go.Proofs.Ytoalaimmgmehaaa

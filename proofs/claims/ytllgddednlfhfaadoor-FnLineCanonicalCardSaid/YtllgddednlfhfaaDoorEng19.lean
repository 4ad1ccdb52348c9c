/-
  The arguments of the exact statements, as the record reads them: any plain type.
-/
import Derived.Test.YtllgddednlfhfaaDoorEng15
import Derived.Test.YtllgddednlfhfaaDoorDat3
namespace Go.Proofs.YtllgddednlfhfaaDoor
open Go.ChangeShapes Go.WideShapes Go.ChangeAt Go.RowKit
set_option linter.unusedVariables false
set_option linter.unusedSimpArgs false
mutual
/-- Data of a type, as cells. -/
inductive Shp (P : Program) : TypeId → List CV → Prop where
  | int {t : TypeId} {k : IntKind} {n : Int} : P.underlying t = some (.int k) → (Lit.int k n).wf = true → Shp P t [.raw (.int k n)]
  | str {t : TypeId} {s : List UInt8} : P.underlying t = some .string → s.length ≤ maxLen → Shp P t [.raw (.string ⟨s.toArray⟩)]
  | slice {t e : TypeId} {rows : List (List CV)} : P.underlying t = some (.slice e) → (∀ r ∈ rows, Shp P e r) → rows.length ≤ maxLen → Shp P t [.sl (P.cellsOf e) rows]
  | struct {t : TypeId} {fs : Array Field} {cvs : List CV} : P.underlying t = some (.struct fs) → ShpL P fs.toList cvs → Shp P t cvs
inductive ShpL (P : Program) : List Field → List CV → Prop where
  | nil : ShpL P [] []
  | cons {f : Field} {fs : List Field} {xs ys : List CV} : Shp P f.type xs → ShpL P fs ys → ShpL P (f :: fs) (xs ++ ys)
end
def tiles (P : Program) : Nat → List Field → Option Nat
  | o, [] => some o
  | o, f :: fs => if f.offset = o then tiles P (o + P.cellsOf f.type) fs else none
def plainT (P : Program) : Nat → TypeId → Bool
  | 0, _ => false
  | d + 1, t => match P.underlying t with
    | some (.int _) => true
    | some .string => true
    | some (.slice e) => Nat.blt 0 (P.cellsOf e) && plainT P d e
    | some (.struct fs) => (tiles P 0 fs.toList == some (P.cellsOf t)) && fs.toList.all fun f => plainT P d f.type
    | _ => false
section
variable {H : Type} {enc : TypeId × Value → H} {P : Program} {W : World}
theorem fields_dl {cs : List Value} {m : Nat} (hm : cs.length = m) : ∀ {fs : List Field} {o : Nat}, tiles P o fs = some m → (∀ f ∈ fs, ∃ cvs, Shp P f.type cvs ∧ DL (Zw W) W cvs ((cs.drop f.offset).take (P.cellsOf f.type))) →
    ∃ cvs, ShpL P fs cvs ∧ DL (Zw W) W cvs (cs.drop o)
  | [], o, ht, _ => by
    simp only [tiles, Option.some.injEq] at ht
    subst ht hm
    exact ⟨[], .nil, by rw [List.drop_length]; trivial⟩
  | f :: fs, o, ht, h => by
    simp only [tiles] at ht
    split at ht
    · rename_i ho
      obtain ⟨xs, h1, h2⟩ := h f (.head _)
      obtain ⟨ys, h3, h4⟩ := fields_dl hm ht (fun g hg => h g (.tail _ hg))
      refine ⟨xs ++ ys, .cons h1 h3, ?_⟩
      have e : cs.drop o = (cs.drop f.offset).take (P.cellsOf f.type) ++ cs.drop (o + P.cellsOf f.type) := by
        rw [ho, ← List.drop_drop, List.take_append_drop]
      rw [e]
      exact h2.append h4
    · cases ht
theorem trod_dl : ∀ (d : Nat) (t : TypeId), plainT P d t = true → ∀ (fuel : Nat) (cs : List Value) (x : DataW H × List MemPlace), DataW.trod enc P W 0 (fun _ => true) true fuel t cs = some x → ∃ cvs, Shp P t cvs ∧ DL (Zw W) W cvs cs
  | 0, _, h, _, _, _, _ => by cases h
  | d + 1, t, hp, fuel, cs, x, h => by
    unfold plainT at hp
    split at hp
    · rename_i k hu
      obtain ⟨n, rfl, _, hw⟩ := DataW.trod_int hu h
      exact ⟨_, .int hu hw, .raw _ rfl, trivial⟩
    · rename_i hu
      obtain ⟨s, rfl, _, hs⟩ := DataW.trod_string hu h
      obtain ⟨⟨s⟩⟩ := s
      exact ⟨[.raw (.string ⟨⟨s⟩⟩)], .str (s := s) hu hs, .raw _ rfl, trivial⟩
    · rename_i e hu
      simp only [Bool.and_eq_true] at hp
      have hpos : 0 < P.cellsOf e := blt_lt hp.1
      rcases DataW.trod_slice hu h with ⟨rfl, _⟩ | ⟨a, len, cap, elems, rest, n, _, rfl, _, _, hl, hm, hlen, hel, _⟩
      · exact ⟨[.sl (P.cellsOf e) []], .slice hu (fun r hr => by cases hr) (Nat.zero_le _), .nil _ none 0 (Nat.zero_le _), trivial⟩
      · rcases Nat.eq_zero_or_pos len with h0 | h0
        · subst h0
          exact ⟨[.sl (P.cellsOf e) []], .slice hu (fun r hr => by cases hr) (Nat.zero_le _), .nil _ _ _ hm, trivial⟩
        have hspot : a.spot = none := by
          have h6 := hel 0 h0
          obtain ⟨y, hy⟩ : ∃ y, elems[0]? = some y := ⟨_, List.getElem?_eq_getElem (by omega)⟩
          rw [hy, Option.bind_eq_some_iff] at h6
          obtain ⟨cs', h7, h8⟩ := h6
          obtain ⟨_, h9, h10⟩ := World.cells?_some h7
          have h11 := h10 0 hpos
          rw [List.getElem?_eq_getElem (by omega)] at h11
          have h12 := World.cell?_spot h11
          simpa [Addr.add] using h12
        obtain ⟨ab, ao, spot⟩ := a
        simp only at hspot
        subst hspot
        have key : ∀ m, m ≤ len → ∃ (rows : List (List CV)) (us : List Value), rows.length = m ∧ (∀ r ∈ rows, r.length = P.cellsOf e ∧ Shp P e r) ∧ DL (Zw W) W rows.flatten us ∧ us.length = m * P.cellsOf e ∧ ∀ k u, us[k]? = some u → W.cell? ⟨ab, ao + k, none⟩ = some u := by
          intro m
          induction m with
          | zero => exact fun _ => ⟨[], [], rfl, fun r hr => (by cases hr), trivial, by simp, fun k u hk => (by simp at hk)⟩
          | succ m ih =>
            intro hml
            obtain ⟨rows, us, h1, h2, h3, h4, h5⟩ := ih (by omega)
            have h6 := hel m (by omega)
            obtain ⟨y, hy⟩ : ∃ y, elems[m]? = some y := ⟨_, List.getElem?_eq_getElem (by omega)⟩
            rw [hy, Option.bind_eq_some_iff, Addr.add_lit] at h6
            obtain ⟨cs', h7, h8⟩ := h6
            obtain ⟨_, h9, h10⟩ := World.cells?_some h7
            obtain ⟨r, h11, h12⟩ := trod_dl d e hp.2 n cs' y h8
            refine ⟨rows ++ [r], us ++ cs', by simp [h1], fun r' hr' => ?_, by rw [List.flatten_append]; exact h3.append (by simpa using h12), by rw [List.length_append, h4, h9, Nat.add_mul, Nat.one_mul], fun k u hk => ?_⟩
            · rcases List.mem_append.1 hr' with hr' | hr'
              · exact h2 r' hr'
              · rw [List.mem_singleton] at hr'; subst hr'; exact ⟨by rw [← h12.len, h9], h11⟩
            · rcases Nat.lt_or_ge k us.length with hk1 | hk1
              · rw [List.getElem?_append_left hk1] at hk; exact h5 k u hk
              · rw [List.getElem?_append_right hk1] at hk
                have hk2 := (List.getElem?_eq_some_iff.1 hk).1
                have h13 := h10 (k - us.length) (by omega)
                rw [hk, Addr.add_lit, show ao + m * P.cellsOf e + (k - us.length) = ao + k by omega] at h13
                exact h13
        obtain ⟨rows, us, h1, h2, h3, h4, h5⟩ := key len (Nat.le_refl _)
        refine ⟨[.sl (P.cellsOf e) rows], .slice hu (fun r hr => (h2 r hr).2) (by omega), ?_, trivial⟩
        have hus : 0 < us.length := by rw [h4]; exact Nat.mul_pos h0 hpos
        have hcc := h5 0 us[0] (List.getElem?_eq_getElem hus)
        exact .sl _ rows ab ao len cap us h1 (fun r hr => (h2 r hr).1) (zw_of_cell hcc) hl hm h3.len h5 (fun k hk hk' => h3.at k hk hk')
    · rename_i fs hu
      simp only [Bool.and_eq_true, beq_iff_eq, List.all_eq_true] at hp
      obtain ⟨xs, n, _, _, hcl, hxl, hf⟩ := DataW.trod_struct hu h
      obtain ⟨cvs, h1, h2⟩ := fields_dl (W := W) hcl hp.1 (fun f hfm => by
        obtain ⟨i, hi⟩ := List.getElem?_of_mem hfm
        have hi' : fs[i]? = some f := by simpa using hi
        have h3 := hf i f hi'
        obtain ⟨y, hy⟩ : ∃ y, xs[i]? = some y := ⟨_, List.getElem?_eq_getElem (by have := (Array.getElem?_eq_some_iff.1 hi').1; omega)⟩
        rw [hy] at h3
        exact trod_dl d f.type (hp.2 f hfm) n _ y h3)
      exact ⟨cvs, .struct hu h1, by simpa using h2⟩
    · cases hp
/-- A parameter of a type of one cell. -/
theorem open_one {d : Nat} {t : TypeId} (hp : plainT P d t = true) {v : Value} {dd : DataW H} {p : List MemPlace} (h1 : v.cells = #[v]) (h : DataW.Trod enc P W 0 (fun _ => true) true t v dd p) : ∃ c, Shp P t [c] ∧ DC (Zw W) W c v := by
  obtain ⟨fuel, hf⟩ := h
  obtain ⟨cvs, h2, h3⟩ := trod_dl d t hp fuel _ _ hf
  rw [h1] at h3
  match cvs, h3 with
  | [c], h3 => exact ⟨c, h2, h3.1⟩
  | [], h3 => exact h3.elim
  | _ :: _ :: _, h3 => exact h3.2.elim
/-- A parameter that is a struct. -/
theorem open_agg {d : Nat} {t : TypeId} (hp : plainT P d t = true) {cs : Array Value} {dd : DataW H} {p : List MemPlace} (h : DataW.Trod enc P W 0 (fun _ => true) true t (.agg cs) dd p) (ρ : Nat → Value) : ∃ cvs : List CV, Shp P t cvs ∧ DR ρ (Zw W) W (.agg (cvs.map .c)) (.agg cs) := by
  obtain ⟨fuel, hf⟩ := h
  obtain ⟨cvs, h2, h3⟩ := trod_dl d t hp fuel _ _ hf
  exact ⟨cvs, h2, cs.toList, rfl, d1l_c h3⟩
/-! ### what the data are -/
theorem shp_i {t : TypeId} {cvs : List CV} (h : Shp P t cvs) (ht : P.underlying t = some (.int .i64)) : ∃ n : Int, cvs = [cI n] := by
  cases h with
  | int hu hw => rw [ht] at hu; cases hu; exact ⟨_, rfl⟩
  | str hu => rw [ht] at hu; cases hu
  | slice hu => rw [ht] at hu; cases hu
  | struct hu => rw [ht] at hu; cases hu
theorem shp_u8 {t : TypeId} {cvs : List CV} (h : Shp P t cvs) (ht : P.underlying t = some (.int .u8)) : ∃ b : UInt8, cvs = byR b := by
  cases h with
  | @int t k n hu hw =>
    rw [ht] at hu; cases hu
    have hx : 0 ≤ n ∧ n ≤ 255 := by simpa [Lit.wf, IntKind.min, IntKind.max, IntKind.signed, IntKind.bits] using hw
    refine ⟨UInt8.ofNat n.toNat, ?_⟩
    simp only [byR, UInt8.toNat_ofNat']
    congr 3
    omega
  | str hu => rw [ht] at hu; cases hu
  | slice hu => rw [ht] at hu; cases hu
  | struct hu => rw [ht] at hu; cases hu
theorem shp_s {t : TypeId} {cvs : List CV} (h : Shp P t cvs) (ht : P.underlying t = some .string) : ∃ s : Str, cvs = [cS s] ∧ s.length ≤ maxLen := by
  cases h with
  | int hu => rw [ht] at hu; cases hu
  | str hu hs => exact ⟨_, rfl, hs⟩
  | slice hu => rw [ht] at hu; cases hu
  | struct hu => rw [ht] at hu; cases hu
theorem shp_sl {t e : TypeId} {cvs : List CV} (h : Shp P t cvs) (ht : P.underlying t = some (.slice e)) : ∃ rows : List (List CV), cvs = [.sl (P.cellsOf e) rows] ∧ rows.length ≤ maxLen ∧ ∀ r ∈ rows, Shp P e r := by
  cases h with
  | int hu => rw [ht] at hu; cases hu
  | str hu => rw [ht] at hu; cases hu
  | slice hu h1 h2 => rw [ht] at hu; cases hu; exact ⟨_, rfl, h2, h1⟩
  | struct hu => rw [ht] at hu; cases hu
theorem shp_st {t : TypeId} {fs : Array Field} {cvs : List CV} (h : Shp P t cvs) (ht : P.underlying t = some (.struct fs)) : ShpL P fs.toList cvs := by
  cases h with
  | int hu => rw [ht] at hu; cases hu
  | str hu => rw [ht] at hu; cases hu
  | slice hu => rw [ht] at hu; cases hu
  | struct hu h1 => rw [ht] at hu; cases hu; exact h1
theorem shpL_cons {f : Field} {fs : List Field} {cvs : List CV} (h : ShpL P (f :: fs) cvs) : ∃ xs ys, cvs = xs ++ ys ∧ Shp P f.type xs ∧ ShpL P fs ys := by
  cases h with
  | cons h1 h2 => exact ⟨_, _, rfl, h1, h2⟩
theorem shpL_nil {cvs : List CV} (h : ShpL P [] cvs) : cvs = [] := by cases h; rfl
/-- Rows of a kind, as a list. -/
theorem rows_of {α : Type} {f : α → List CV} : ∀ {rows : List (List CV)}, (∀ r ∈ rows, ∃ a, r = f a) → ∃ xs : List α, rows = xs.map f
  | [], _ => ⟨[], rfl⟩
  | r :: rows, h => by
    obtain ⟨a, rfl⟩ := h r (.head _)
    obtain ⟨xs, rfl⟩ := rows_of (rows := rows) (fun r hr => h r (.tail _ hr))
    exact ⟨a :: xs, rfl⟩
/-- structs of two numbers, of two texts -/
def isPt (P : Program) (t : TypeId) : Bool := match P.underlying t with | some (.struct fs) => (match fs.toList with | [f, g] => isI64 P f.type && isI64 P g.type | _ => false) | _ => false
def isLb (P : Program) (t : TypeId) : Bool := match P.underlying t with | some (.struct fs) => (match fs.toList with | [f, g] => isStr P f.type && isStr P g.type | _ => false) | _ => false
theorem shp_pt {t : TypeId} {cvs : List CV} (h : Shp P t cvs) (ht : isPt P t = true) : ∃ p : Int × Int, cvs = ptR p := by
  unfold isPt at ht
  split at ht
  · rename_i fs hu
    have h1 := shp_st h hu
    split at ht
    · rename_i f g he
      rw [he] at h1
      simp only [Bool.and_eq_true] at ht
      obtain ⟨xs, ys, rfl, h2, h3⟩ := shpL_cons h1
      obtain ⟨xs', ys', rfl, h4, h5⟩ := shpL_cons h3
      obtain ⟨a, rfl⟩ := shp_i h2 (isI64_of ht.1)
      obtain ⟨b, rfl⟩ := shp_i h4 (isI64_of ht.2)
      rw [shpL_nil h5]
      exact ⟨(a, b), rfl⟩
    · cases ht
  · cases ht
theorem shp_lb {t : TypeId} {cvs : List CV} (h : Shp P t cvs) (ht : isLb P t = true) : ∃ p : Str × Str, cvs = lbR p ∧ p.1.length ≤ maxLen ∧ p.2.length ≤ maxLen := by
  unfold isLb at ht
  split at ht
  · rename_i fs hu
    have h1 := shp_st h hu
    split at ht
    · rename_i f g he
      rw [he] at h1
      simp only [Bool.and_eq_true] at ht
      obtain ⟨xs, ys, rfl, h2, h3⟩ := shpL_cons h1
      obtain ⟨xs', ys', rfl, h4, h5⟩ := shpL_cons h3
      obtain ⟨a, rfl, ha⟩ := shp_s h2 (isStr_of ht.1)
      obtain ⟨b, rfl, hb⟩ := shp_s h4 (isStr_of ht.2)
      rw [shpL_nil h5]
      exact ⟨(a, b), rfl, ha, hb⟩
    · cases ht
  · cases ht
/-- []Point, []int, []byte as parameters -/
theorem open_pts {d : Nat} {t e : TypeId} (ht : P.underlying t = some (.slice e)) (hp : plainT P d t = true) (he : isPt P e = true) (hc : P.cellsOf e = 2) {base : Nat} {v : Value} {dd : DataW H} {p : List MemPlace}
    (hval : Value.okWide P W .any base t v) (h : DataW.Trod enc P W 0 (fun _ => true) true t v dd p) : ∃ ps : List (Int × Int), DC (Zw W) W (.sl 2 (ptRs ps)) v ∧ ps.length ≤ maxLen := by
  obtain ⟨a, len, cap, rfl⟩ := okWide_slice ht hval
  obtain ⟨c, h1, h2⟩ := open_one hp rfl h
  obtain ⟨rows, h3, h4, h5⟩ := shp_sl h1 ht
  cases h3
  obtain ⟨ps, rfl⟩ := rows_of (f := ptR) (fun r hr => shp_pt (h5 r hr) he)
  rw [hc] at h2
  exact ⟨ps, h2, by simpa using h4⟩
theorem open_nums {d : Nat} {t e : TypeId} (ht : P.underlying t = some (.slice e)) (hp : plainT P d t = true) (he : P.underlying e = some (.int .i64)) (hc : P.cellsOf e = 1) {base : Nat} {v : Value} {dd : DataW H} {p : List MemPlace}
    (hval : Value.okWide P W .any base t v) (h : DataW.Trod enc P W 0 (fun _ => true) true t v dd p) : ∃ ns : List Int, DC (Zw W) W (.sl 1 (inRs ns)) v ∧ ns.length ≤ maxLen := by
  obtain ⟨a, len, cap, rfl⟩ := okWide_slice ht hval
  obtain ⟨c, h1, h2⟩ := open_one hp rfl h
  obtain ⟨rows, h3, h4, h5⟩ := shp_sl h1 ht
  cases h3
  obtain ⟨ns, rfl⟩ := rows_of (f := inR) (fun r hr => shp_i (h5 r hr) he)
  rw [hc] at h2
  exact ⟨ns, h2, by simpa using h4⟩
theorem okWide_agg {t : TypeId} {base : Nat} {v : Value} (ht : isStc P t = true) (hval : Value.okWide P W .any base t v) : ∃ cs, v = .agg cs := by
  unfold isStc at ht
  split at ht
  · rename_i fs hu
    simp only [Value.okWide, hu] at hval
    obtain ⟨cs, h, _⟩ := hval
    exact ⟨cs, h⟩
  · cases ht
theorem open_pt {d : Nat} {t : TypeId} (hp : plainT P d t = true) (hs : isStc P t = true) (he : isPt P t = true) {base : Nat} {v : Value} {dd : DataW H} {p : List MemPlace}
    (hval : Value.okWide P W .any base t v) (h : DataW.Trod enc P W 0 (fun _ => true) true t v dd p) (ρ : Nat → Value) : ∃ a b : Int, DR ρ (Zw W) W (ptA a b) v := by
  obtain ⟨cs, rfl⟩ := okWide_agg hs hval
  obtain ⟨cvs, h1, h2⟩ := open_agg hp h ρ
  obtain ⟨⟨a, b⟩, rfl⟩ := shp_pt h1 he
  exact ⟨a, b, h2⟩
theorem open_num {t : TypeId} (ht : P.underlying t = some (.int .i64)) {base : Nat} {v : Value} {dd : DataW H} {p : List MemPlace}
    (hval : Value.okWide P W .any base t v) (h : DataW.Trod enc P W 0 (fun _ => true) true t v dd p) : ∃ n : Int, DC (Zw W) W (cI n) v ∧ -9223372036854775808 ≤ n ∧ n ≤ 9223372036854775807 := by
  obtain ⟨n, h1, _, _, h2⟩ := open_int ht hval h
  subst h1
  exact ⟨n, .raw _ rfl, by simpa [Lit.wf, IntKind.min, IntKind.max, IntKind.signed, IntKind.bits] using h2⟩
end
end Go.Proofs.YtllgddednlfhfaaDoor

/-
  Own slices cut, stores into elements, strings, conversions, equality.
-/
import Derived.Test.YtllgddednlfhfaaDoorEng7
namespace Go.Proofs.YtllgddednlfhfaaDoor
open Go.RowKit
set_option linter.unusedVariables false
set_option linter.unusedSimpArgs false

section
variable {P : Program} {R : List (Operand × AV)} {RO : List (Nat × OB)}
variable {d : Nat} {x y z : Operand} {t t' ty : TypeId} {pos : String} {af : Array Edge} {gd : Option (Nat × Bool)}

/-- The call's own slice, cut: the uncut one is used no more. -/
theorem opx_slice_own {u n : Nat} {T e wd bytes e' : Nat} {zs : List Value} [hT : SlT P T e wd bytes zs] {rows : List (List CV)} {lo hi : Option Operand} {l h : Nat} (hlo : lo = none → l = 0) (hhi : hi = none → h = rows.length) (hlh : l ≤ h) (hh : h ≤ rows.length) :
    OpX P ⟨some d, .slice T x lo hi none, ty, pos, af, gd⟩ ((x, .own u) :: (rdOpt lo l ++ rdOpt hi h)) [(u, .row wd e' rows)] [n] [(d, .own n)] [(n, .row wd e' ((rows.take h).drop l)), (u, .gone)] := by
  intro cx S O V a w hR hO hV hU ⟨ρ, Z, hg⟩ K Q hK
  obtain ⟨h1, h2⟩ := AgL.split hR.2
  have ho := hg.obj u
  rw [hO.1] at ho
  obtain ⟨hw, us, hd, hown⟩ := do_row.1 ho
  have hl : (O u).live = true := by rw [hO.1]; rfl
  have hx : a.eval x = ρ u := (hg.ag hR.1).1
  have hgr : w.grownBy w (blk (ρ u)) := ⟨rfl, rfl, rfl, Nat.le_refl _, fun _ _ _ => rfl⟩
  have hlo' := optag_val hg (optag_of h1 hlo)
  have hhi' := optag_val hg (optag_of h2 hhi)
  have hw' : ∀ r ∈ (rows.take h).drop l, r.length = wd := fun r hr => hw r (List.mem_of_mem_take (List.mem_of_mem_drop hr))
  have hlen := slice_rows rows l h hlh hh
  have main : ∃ v, (Instr.sliceAt T (ρ u) (lo.map a.eval) (hi.map a.eval) none).run P w = .ok v w ∧ v.oneCell' = true ∧ (∀ g, blk v = some g → blk (ρ u) = some g) ∧
      ∃ us', DL Z w ((rows.take h).drop l).flatten us' ∧ OwnAt w v ((rows.take h).drop l).length wd e' us' := by
    rcases hown with ⟨h3, h4, rfl⟩ | ⟨g, off, cap, cur, h3, h4, h5, h6, h7, h8, h9⟩
    · have : rows = [] := List.eq_nil_of_length_eq_zero h4
      subst this
      have h0 : h = 0 := by simpa using hh
      subst h0
      have l0 : l = 0 := by omega
      subst l0
      rw [h3]
      exact ⟨_, run_slice (P := P) (w := w) hT (A := none) (n := 0) (c := 0) hlo' hhi' (Nat.le_refl _) (Nat.le_refl _), rfl, (fun g hb => by cases hb), [], trivial, .inl ⟨rfl, rfl, rfl⟩⟩
    · rw [h3]
      refine ⟨_, run_slice (P := P) (w := w) hT (A := some ⟨g, off, none⟩) (n := rows.length) (c := cap) hlo' hhi' hlh (by omega), by split <;> rfl, ?_, (us.take (h * wd)).drop (l * wd), ?_, ?_⟩
      · intro k hb
        by_cases hc : cap = l
        · rw [if_pos hc] at hb; exact hb
        · rw [if_neg hc, Option.map_some, addr_add] at hb; exact hb
      · rw [flat_drop l (fun r hr => hw r (List.mem_of_mem_take hr)), flat_take h hw]
        exact (hd.take _).drop _
      · rw [hlen]
        have hul : ((us.take (h * wd)).drop (l * wd)).length = (h - l) * wd := by
          rw [List.length_drop, List.length_take, h8, Nat.sub_mul]
          have : h * wd ≤ rows.length * wd := Nat.mul_le_mul_right _ hh
          omega
        by_cases hc : cap = l
        · have e1 : h = l := by omega
          rw [if_pos hc]
          refine .inr ⟨g, off, cap - l, cur, rfl, h4, by omega, by omega, ?_, hul, ?_⟩
          · have : (cap - l) * wd ≤ cap * wd := Nat.mul_le_mul_right _ (by omega)
            omega
          · intro k u hk
            have : (List.drop (l * wd) (List.take (h * wd) us)) = [] := List.eq_nil_of_length_eq_zero (by rw [hul, e1]; simp)
            rw [this] at hk; cases hk
        · rw [if_neg hc, Option.map_some, addr_add]
          refine .inr ⟨g, off + l * wd, cap - l, cur, rfl, h4, by omega, by omega, ?_, hul, ?_⟩
          · have : l * wd + (cap - l) * wd = cap * wd := by rw [← Nat.add_mul]; congr 1; omega
            omega
          · intro k u hk
            rw [List.getElem?_drop, List.getElem?_take] at hk
            split at hk
            · rw [Nat.add_assoc]; exact h9 _ u hk
            · cases hk
  obtain ⟨v, hrun, h1c, hblk, us', hd', hown'⟩ := main
  have hn := hg.subst (w' := w) (t := u) (u := n) (v := v) (ob := .row wd e' ((rows.take h).drop l)) hl hV.1 hgr (do_row.2 ⟨hw', us', hd', by simpa using hown'⟩) (fun g hb => .inr (hblk g hb)) (by simp [OB.tags])
  unfold Oper.wp
  have hexec : (execOp a.eval ⟨some d, .slice T x lo hi none, ty, pos, af, gd⟩).run P w = .ok (.value v) w := by
    simp only [execOp, hx]
    rw [Sem.run_bind]
    erw [hrun]; rfl
  rw [hexec]
  show K (a.put (some d) v) w
  have hda : DA (fun s => if s = n then v else ρ s) Z w (.own n) v := ⟨by simp, h1c⟩
  refine hK _ _ ⟨_, Z, (hn.put (blt_lt hU.1) hda ?_).weak fun s hs => ⟨hs.1, fun e => hs.2 (by simp [e])⟩⟩
  intro s hs hv
  simp [AV.tags, AR.tags, A1.tag] at hs
  exact hv.2 hs

/-! ### stores into elements -/
theorem flatten_set {wd : Nat} : ∀ {rows : List (List CV)} {i k : Nat} {row : List CV} {c : CV}, (∀ r ∈ rows, r.length = wd) → rows[i]? = some row → k < wd →
    (rows.set i (row.set k c)).flatten = rows.flatten.set (i * wd + k) c
  | r :: rows, 0, k, row, c, hw, hi, hk => by
    cases hi
    have := hw r (.head _)
    rw [List.set_cons_zero, List.flatten_cons, List.flatten_cons, Nat.zero_mul, Nat.zero_add, List.set_append_left _ _ (by omega)]
  | r :: rows, i + 1, k, row, c, hw, hi, hk => by
    have hr := hw r (.head _)
    have e : (i + 1) * wd + k = r.length + (i * wd + k) := by rw [hr, Nat.add_mul]; omega
    rw [List.set_cons_succ, List.flatten_cons, List.flatten_cons, e, List.set_append_right _ _ (by omega), Nat.add_sub_cancel_left,
      flatten_set (fun r hr => hw r (.tail _ hr)) (by simpa using hi) hk]
  | [], i, k, row, c, _, hi, _ => by simp at hi

theorem flatten_splice {wd : Nat} : ∀ {rows : List (List CV)} {i : Nat} {row : List CV}, (∀ r ∈ rows, r.length = wd) → i < rows.length → row.length = wd →
    (rows.set i row).flatten = splice rows.flatten (i * wd) row
  | r :: rows, 0, row, hw, _, hl => by
    have hr := hw r (.head _)
    rw [List.set_cons_zero, List.flatten_cons, List.flatten_cons, Nat.zero_mul]
    simp only [splice, List.take_zero, List.nil_append, Nat.zero_add]
    rw [hl, ← hr, List.drop_left]
  | r :: rows, i + 1, row, hw, hi, hl => by
    have hr := hw r (.head _)
    have e : (i + 1) * wd = r.length + i * wd := by rw [hr, Nat.add_mul]; omega
    rw [List.set_cons_succ, List.flatten_cons, List.flatten_cons, flatten_splice (fun r hr => hw r (.tail _ hr)) (by simpa using hi) hl, e]
    simp only [splice]
    rw [List.take_length_add_append, Nat.add_assoc, List.drop_length_add_append]
    simp [List.append_assoc]
  | [], i, row, _, hi, _ => by simp at hi

theorem dl_splice {Z : Nat → Prop} {w : World} {xs ys : List CV} {us vs : List Value} (h : DL Z w xs us) (o : Nat) (h2 : DL Z w ys vs) : DL Z w (splice xs o ys) (splice us o vs) := by
  unfold splice
  rw [h2.len]
  exact DL.append (DL.append (h.take o) h2) (h.drop _)

theorem set_splice {α : Type} (xs : List α) (o : Nat) (c : α) (h : o < xs.length) : xs.set o c = splice xs o [c] := by
  unfold splice
  rw [List.set_eq_take_append_cons_drop, if_pos h]
  simp

/-- Cells are stored into element i. -/
theorem opx_st_el {u wd i k : Nat} {e : TypeId} {rows rows' : List (List CV)} {xs : List CV} {av : AV}
    (H : ∀ (ρ : Nat → Value) (Z : Nat → Prop) (w : World) (v : Value), DA ρ Z w av v → (sizeOf t).run P w = .ok xs.length w ∧ ∃ us, v.cells = us.toArray ∧ DL Z w xs us)
    (hfit : (∀ r ∈ rows, r.length = wd) → i * wd + k + xs.length ≤ rows.flatten.length) (hrl : rows'.length = rows.length)
    (hrw : (∀ r ∈ rows, r.length = wd) → (∀ r ∈ rows', r.length = wd) ∧ rows'.flatten = splice rows.flatten (i * wd + k) xs) :
    OpX P ⟨none, .store t x y, ty, pos, af, gd⟩ [(x, .el u wd i k), (y, av)] [(u, .row wd e rows)] [] [] [(u, .row wd e rows')] :=
  opx_set rfl rfl fun cx S O V a w ρ Z hg hR hO => by
    obtain ⟨g, o, h1, h2⟩ := hg.ag hR.1
    have ho := hg.obj u
    rw [hO.1] at ho
    obtain ⟨hw, us, hd, hown⟩ := do_row.1 ho
    obtain ⟨hs, us', h6, h7⟩ := H ρ Z w _ (hg.ag hR.2.1)
    obtain ⟨hw', hfl⟩ := hrw hw
    have hfit' := hfit hw
    have hl : us'.length = xs.length := h7.len
    have hv : (a.eval y).cells.size = xs.length := by rw [h6]; simpa using hl
    rcases hown with ⟨h3, _⟩ | ⟨g', off, cap, cur, h3, h4, h5, h8, h9, h10, h11⟩
    · rw [h3] at h1; cases h1
    · rw [h3] at h1
      cases h1
      have hfl2 := flatten_len hw
      have hcs : o + rows.length * wd ≤ cur.size := by
        have : rows.length * wd ≤ cap * wd := Nat.mul_le_mul_right _ h5
        omega
      have hr := run_storeAt (P := P) (t := t) (v := a.eval y) (o := o + (i * wd + k)) h4 (by rw [hv]; exact hs) (by rw [h6]; simpa using h7.one) (by rw [hv]; omega)
      refine ⟨_, by simp only [execOp, h2]; rw [Sem.run_bind, hr]; rfl, by rw [hO.1]; rfl, by rw [h3]; exact grownBy_setRow _ _ _, ?_, by simp [OB.tags]⟩
      have hsame : Same Z w (w.setRow g ((cur.toList.take (o + (i * wd + k)) ++ (a.eval y).cells.toList ++ cur.toList.drop (o + (i * wd + k) + (a.eval y).cells.size)).toArray)) := fun k' hk =>
        setRow_other _ _ _ _ (fun e => (hg.out u g (by rw [hO.1]; rfl) (by rw [h3]; rfl)).1 (e ▸ hk))
      refine do_row.2 ⟨hw', splice us (i * wd + k) us', hfl ▸ (dl_splice hd _ h7).mono (fun _ h => h) hsame, .inr ⟨g, o, cap, _, by rw [hrl]; exact h3, setRow_heap w g _ _ e (0, 0) h4, by rw [hrl]; exact h5, h8, ?_, ?_, ?_⟩⟩
      · rw [hv]
        simp only [List.size_toArray, List.length_append, List.length_take, List.length_drop, Array.length_toList, h6, hl]
        omega
      · simp only [splice, List.length_append, List.length_take, List.length_drop, hl, hrl]
        omega
      · intro j v hj
        rw [hv, h6]
        simp only [List.getElem?_toArray]
        simp only [splice, hl] at hj
        have e1 : min (i * wd + k) us.length = i * wd + k := by omega
        have e2 : min (o + (i * wd + k)) cur.toList.length = o + (i * wd + k) := by simp; omega
        by_cases hj1 : j < i * wd + k
        · rw [List.append_assoc, List.getElem?_append_left (by rw [List.length_take, e1]; exact hj1), List.getElem?_take, if_pos hj1] at hj
          rw [List.append_assoc, List.getElem?_append_left (by rw [List.length_take, e2]; omega), List.getElem?_take, if_pos (by omega)]
          simpa using h11 j v hj
        · rw [List.append_assoc, List.getElem?_append_right (by rw [List.length_take, e1]; omega), List.length_take, e1] at hj
          rw [List.append_assoc, List.getElem?_append_right (by rw [List.length_take, e2]; omega), List.length_take, e2]
          by_cases hj2 : j - (i * wd + k) < us'.length
          · rw [List.getElem?_append_left hj2] at hj
            rw [List.getElem?_append_left (by omega), ← hj]
            congr 1; omega
          · rw [List.getElem?_append_right (by omega), List.getElem?_drop] at hj
            rw [List.getElem?_append_right (by omega), List.getElem?_drop]
            have := h11 _ v hj
            simp only [Array.getElem?_toList]
            rw [← this]
            congr 1; omega

theorem opx_st1_el {u wd i k : Nat} {e : TypeId} {rows : List (List CV)} {row : List CV} {c : CV} [h : TyOne P t] (hi : rows[i]? = some row) (hk : k < wd) :
    OpX P ⟨none, .store t x y, ty, pos, af, gd⟩ [(x, .el u wd i k), (y, .c c)] [(u, .row wd e rows)] [] [] [(u, .row wd e (rows.set i (row.set k c)))] :=
  opx_st_el (xs := [c]) (fun ρ Z w v hv => ⟨run_size_one h, [v], cells_one (DC.one hv), ⟨hv, trivial⟩⟩) (fun hw => by
      have hlt : i < rows.length := (List.getElem?_eq_some_iff.1 hi).1
      rw [flatten_len hw]
      have : (i + 1) * wd ≤ rows.length * wd := Nat.mul_le_mul_right _ hlt
      rw [Nat.add_mul] at this
      simp; omega) (by simp) (fun hw => ⟨fun r hr => by
      rcases List.mem_or_eq_of_mem_set hr with h | rfl
      · exact hw r h
      · rw [List.length_set]; exact hw row (List.mem_of_getElem? hi), by
      have hlt : i < rows.length := (List.getElem?_eq_some_iff.1 hi).1
      rw [flatten_set hw hi hk, set_splice]
      rw [flatten_len hw]
      have : (i + 1) * wd ≤ rows.length * wd := Nat.mul_le_mul_right _ hlt
      rw [Nat.add_mul] at this
      omega⟩)

theorem dl_of_c {ρ : Nat → Value} {Z : Nat → Prop} {w : World} : ∀ {xs : List CV} {us : List Value}, D1L ρ Z w (xs.map .c) us → DL Z w xs us
  | [], [], _ => trivial
  | _ :: _, _ :: _, h => ⟨h.1, dl_of_c h.2⟩
  | [], _ :: _, h => h.elim
  | _ :: _, [], h => h.elim

theorem opx_sts_el {u wd i : Nat} {e : TypeId} {rows : List (List CV)} {row : List CV} {xs : List A1} [h : TyStr P t wd] (hx : xs = row.map .c) (hl : row.length = wd) (hi : i < rows.length) :
    OpX P ⟨none, .store t x y, ty, pos, af, gd⟩ [(x, .el u wd i 0), (y, .agg xs)] [(u, .row wd e rows)] [] [] [(u, .row wd e (rows.set i row))] :=
  opx_st_el (xs := row) (fun ρ Z w v hv => by
      subst hx
      obtain ⟨us, rfl, h2⟩ := hv
      exact ⟨by rw [hl]; exact (run_isAgg_str h).2, us, rfl, dl_of_c h2⟩) (fun hw => by
      rw [flatten_len hw]
      have : (i + 1) * wd ≤ rows.length * wd := Nat.mul_le_mul_right _ hi
      rw [Nat.add_mul] at this
      omega) (by simp) (fun hw => ⟨fun r hr => by
      rcases List.mem_or_eq_of_mem_set hr with h | rfl
      · exact hw r h
      · exact hl, by rw [flatten_splice hw hi hl]; rfl⟩)

/-! ### strings -/
theorem opx_sidx {T : TypeId} [hT : StrT P T] {s : List UInt8} {b : UInt8} {i : Int} {k : Nat} (hi : i = (k : Int)) (hk : s[k]? = some b) :
    OpX P ⟨some d, .index T x y, ty, pos, af, gd⟩ [(x, .str s), (y, .i i)] [] [] [(d, .raw (.int .u8 b.toNat))] [] :=
  opx_val rfl fun cx S O V a w ρ Z hg hR hO => by
    subst hi
    have h1 := da_raw (hg.ag hR.1)
    have h2 := da_raw (hg.ag hR.2.1)
    refine ⟨_, ?_, da_mk rfl, by simp [AV.tags, AR.tags, A1.tag]⟩
    have hlt : k < s.length := (List.getElem?_eq_some_iff.1 hk).1
    have hb : ((⟨s.toArray⟩ : ByteArray)[k]? : Option UInt8) = some b := by
      have hsz : k < (⟨s.toArray⟩ : ByteArray).size := by simpa [ByteArray.size] using hlt
      rw [getElem?_pos (⟨s.toArray⟩ : ByteArray) k hsz]
      have := (List.getElem?_eq_some_iff.1 hk).2
      simpa [ByteArray.getElem_eq_getElem_data] using this
    simp [execOp, h1, h2, Instr.index, asIntOf, run_underlying hT.ok, hb]

theorem ba_extract (s : List UInt8) (l h : Nat) : (⟨s.toArray⟩ : ByteArray).extract l h = ⟨((s.take h).drop l).toArray⟩ := by
  apply ByteArray.ext
  apply Array.ext'
  simp [ByteArray.data_extract, List.drop_take]

theorem opx_sslice {T : TypeId} [hT : StrT P T] {s : List UInt8} {lo hi : Option Operand} {l h : Nat} (hlo : lo = none → l = 0) (hhi : hi = none → h = s.length) (hlh : l ≤ h) (hh : h ≤ s.length) :
    OpX P ⟨some d, .slice T x lo hi none, ty, pos, af, gd⟩ ((x, .str s) :: (rdOpt lo l ++ rdOpt hi h)) [] [] [(d, .str ((s.take h).drop l))] [] :=
  opx_val rfl fun cx S O V a w ρ Z hg hR hO => by
    obtain ⟨h1, h2⟩ := AgL.split hR.2
    have hx := da_raw (hg.ag hR.1)
    have hsz : (⟨s.toArray⟩ : ByteArray).size = s.length := by simp [ByteArray.size]
    have e1 : (h : Int) ≤ (s.length : Int) := by omega
    have e2 : (l : Int) ≤ (h : Int) := by omega
    refine ⟨.string ⟨((s.take h).drop l).toArray⟩, ?_, da_mk rfl, by simp [AV.tags, AR.tags, A1.tag]⟩
    have hr : (Instr.sliceAt T (.string ⟨s.toArray⟩) (lo.map a.eval) (hi.map a.eval) none).run P w = .ok (.string ⟨((s.take h).drop l).toArray⟩) w := by
      rcases optag_val hg (optag_of h1 hlo) with h3 | ⟨h3, rfl⟩ <;> rcases optag_val hg (optag_of h2 hhi) with h4 | ⟨h4, rfl⟩ <;> rw [h3, h4] <;>
        simp [Instr.sliceAt, Instr.slice, run_underlying hT.ok, Instr.sliceBounds, Instr.sliceBound, asIntOf, hsz, hh, hlh, e1, e2, ba_extract]
    simp only [execOp, hx]
    rw [Sem.run_bind]; erw [hr]; rfl

/-! ### conversions between integer kinds -/
class CvT (P : Program) (src dst : TypeId) (k : outParam IntKind) : Prop where
  hs : (P.underlying src).isSome = true
  hd : P.underlying dst = some (.int k)
theorem opx_conv {src dst : TypeId} {k q : IntKind} [h : CvT P src dst k] {n m : Int} (hm : k.wrap n = m) :
    OpX P ⟨some d, .convert src dst x, ty, pos, af, gd⟩ [(x, .raw (.int q n))] [] [] [(d, .raw (.int k m))] [] :=
  opx_val rfl fun cx S O V a w ρ Z hg hR hO => by
    refine ⟨.int k m, ?_, da_mk rfl, by simp [AV.tags, AR.tags, A1.tag]⟩
    have h1 := da_raw (hg.ag hR.1)
    have hr : (convert src dst (.int q n)).run P w = .ok (.int k m) w := by
      have hs := h.hs
      cases hu : P.underlying src with
      | none => rw [hu] at hs; cases hs
      | some de =>
        simp only [convert, Sem.run_bind, run_underlying hu, run_underlying h.hd, Result.andThen_ok]
        simp [Conv.intToInt, hm]
    simp only [execOp, h1]
    rw [Sem.run_bind, hr]; rfl
/-- 'string(b)' of bytes known one by one. -/
theorem bytes_conv_nil : True := trivial

/-! ### == of bools, of structs -/
class BoolT (P : Program) (T : TypeId) : Prop where
  ok : P.underlying T = some .bool
theorem opx_beql {T : TypeId} [hT : BoolT P T] {m n : Bool} : OpX P ⟨some d, .binOp .eql T x y t', ty, pos, af, gd⟩ [(x, .b m), (y, .b n)] [] [] [(d, .b (m == n))] [] :=
  opx_val rfl fun cx S O V a w ρ Z hg hR hO => by
    refine ⟨.bool (m == n), ?_, da_mk rfl, by simp [AV.tags, AR.tags, A1.tag]⟩
    simp [execOp, da_raw (hg.ag hR.1), da_raw (hg.ag hR.2.1), eqGuard, binOp, Op.equal, Op.maxDepth, run_equalIn_bool' w 9999 T m n hT.ok]
theorem opx_bneq {T : TypeId} [hT : BoolT P T] {m n : Bool} : OpX P ⟨some d, .binOp .neq T x y t', ty, pos, af, gd⟩ [(x, .b m), (y, .b n)] [] [] [(d, .b (!(m == n)))] [] :=
  opx_val rfl fun cx S O V a w ρ Z hg hR hO => by
    refine ⟨.bool (!(m == n)), ?_, da_mk rfl, by simp [AV.tags, AR.tags, A1.tag]⟩
    simp [execOp, da_raw (hg.ag hR.1), da_raw (hg.ag hR.2.1), eqGuard, binOp, Op.equal, Op.maxDepth, run_equalIn_bool' w 9999 T m n hT.ok]

/-! ### slices whose bounds are said by equations, and their rows by name -/
section cuts
theorem opx_cutH_own {d u n : Nat} {T e wd bytes e' : Nat} {zs : List Value} [hT : SlT P T e wd bytes zs] {rows rows' : List (List CV)} {x y : Operand} {z : Int} {h : Nat} {ty : TypeId} {pos : String} {af : Array Edge} {gd : Option (Nat × Bool)} (he : (rows.take h).drop 0 = rows') (hh : z = (h : Int)) (hb : h ≤ rows.length) :
    OpX P ⟨some d, .slice T x none (some y) none, ty, pos, af, gd⟩ [(x, .own u), (y, .i z)] [(u, .row wd e' rows)] [n] [(d, .own n)] [(n, .row wd e' rows'), (u, .gone)] := by
  subst hh; subst he
  exact opx_slice_own (l := 0) (fun _ => rfl) (fun h => by cases h) (Nat.zero_le _) hb
theorem opx_cutH_sl {d : Nat} {T e wd bytes : Nat} {zs : List Value} [hT : SlT P T e wd bytes zs] {rows rows' : List (List CV)} {x y : Operand} {z : Int} {h : Nat} {ty : TypeId} {pos : String} {af : Array Edge} {gd : Option (Nat × Bool)} (he : (rows.take h).drop 0 = rows') (hh : z = (h : Int)) (hb : h ≤ rows.length) :
    OpX P ⟨some d, .slice T x none (some y) none, ty, pos, af, gd⟩ [(x, .sl wd rows), (y, .i z)] [] [] [(d, .sl wd rows')] [] := by
  subst hh; subst he
  exact opx_slice_sl (l := 0) (fun _ => rfl) (fun h => by cases h) (Nat.zero_le _) hb
theorem opx_cutH_froz {d u : Nat} {T e wd bytes : Nat} {zs : List Value} [hT : SlT P T e wd bytes zs] {rows rows' : List (List CV)} {x y : Operand} {z : Int} {h : Nat} {ty : TypeId} {pos : String} {af : Array Edge} {gd : Option (Nat × Bool)} (he : (rows.take h).drop 0 = rows') (hh : z = (h : Int)) (hb : h ≤ rows.length) :
    OpX P ⟨some d, .slice T x none (some y) none, ty, pos, af, gd⟩ [(x, .own u), (y, .i z)] [(u, .froz wd rows)] [] [(d, .sl wd rows')] [] := by
  subst hh; subst he
  exact opx_slice_froz (l := 0) (fun _ => rfl) (fun h => by cases h) (Nat.zero_le _) hb
theorem opx_cutL_own {d u n : Nat} {T e wd bytes e' : Nat} {zs : List Value} [hT : SlT P T e wd bytes zs] {rows rows' : List (List CV)} {x y : Operand} {z : Int} {l : Nat} {ty : TypeId} {pos : String} {af : Array Edge} {gd : Option (Nat × Bool)} (he : (rows.take rows.length).drop l = rows') (hl : z = (l : Int)) (hb : l ≤ rows.length) :
    OpX P ⟨some d, .slice T x (some y) none none, ty, pos, af, gd⟩ [(x, .own u), (y, .i z)] [(u, .row wd e' rows)] [n] [(d, .own n)] [(n, .row wd e' rows'), (u, .gone)] := by
  subst hl; subst he
  exact opx_slice_own (h := rows.length) (fun h => by cases h) (fun _ => rfl) hb (Nat.le_refl _)
theorem opx_cutL_sl {d : Nat} {T e wd bytes : Nat} {zs : List Value} [hT : SlT P T e wd bytes zs] {rows rows' : List (List CV)} {x y : Operand} {z : Int} {l : Nat} {ty : TypeId} {pos : String} {af : Array Edge} {gd : Option (Nat × Bool)} (he : (rows.take rows.length).drop l = rows') (hl : z = (l : Int)) (hb : l ≤ rows.length) :
    OpX P ⟨some d, .slice T x (some y) none none, ty, pos, af, gd⟩ [(x, .sl wd rows), (y, .i z)] [] [] [(d, .sl wd rows')] [] := by
  subst hl; subst he
  exact opx_slice_sl (h := rows.length) (fun h => by cases h) (fun _ => rfl) hb (Nat.le_refl _)
theorem opx_cutL_froz {d u : Nat} {T e wd bytes : Nat} {zs : List Value} [hT : SlT P T e wd bytes zs] {rows rows' : List (List CV)} {x y : Operand} {z : Int} {l : Nat} {ty : TypeId} {pos : String} {af : Array Edge} {gd : Option (Nat × Bool)} (he : (rows.take rows.length).drop l = rows') (hl : z = (l : Int)) (hb : l ≤ rows.length) :
    OpX P ⟨some d, .slice T x (some y) none none, ty, pos, af, gd⟩ [(x, .own u), (y, .i z)] [(u, .froz wd rows)] [] [(d, .sl wd rows')] [] := by
  subst hl; subst he
  exact opx_slice_froz (h := rows.length) (fun h => by cases h) (fun _ => rfl) hb (Nat.le_refl _)
theorem opx_cutLH_own {d u n : Nat} {T e wd bytes e' : Nat} {zs : List Value} [hT : SlT P T e wd bytes zs] {rows rows' : List (List CV)} {x y : Operand} {z : Operand} {zl zh : Int} {l h : Nat} {ty : TypeId} {pos : String} {af : Array Edge} {gd : Option (Nat × Bool)} (he : (rows.take h).drop l = rows') (hl : zl = (l : Int)) (hh : zh = (h : Int)) (hb : l ≤ h ∧ h ≤ rows.length) :
    OpX P ⟨some d, .slice T x (some y) (some z) none, ty, pos, af, gd⟩ [(x, .own u), (y, .i zl), (z, .i zh)] [(u, .row wd e' rows)] [n] [(d, .own n)] [(n, .row wd e' rows'), (u, .gone)] := by
  subst hl hh; subst he
  exact opx_slice_own  (fun h => by cases h) (fun h => by cases h) hb.1 hb.2
theorem opx_cutLH_sl {d : Nat} {T e wd bytes : Nat} {zs : List Value} [hT : SlT P T e wd bytes zs] {rows rows' : List (List CV)} {x y : Operand} {z : Operand} {zl zh : Int} {l h : Nat} {ty : TypeId} {pos : String} {af : Array Edge} {gd : Option (Nat × Bool)} (he : (rows.take h).drop l = rows') (hl : zl = (l : Int)) (hh : zh = (h : Int)) (hb : l ≤ h ∧ h ≤ rows.length) :
    OpX P ⟨some d, .slice T x (some y) (some z) none, ty, pos, af, gd⟩ [(x, .sl wd rows), (y, .i zl), (z, .i zh)] [] [] [(d, .sl wd rows')] [] := by
  subst hl hh; subst he
  exact opx_slice_sl  (fun h => by cases h) (fun h => by cases h) hb.1 hb.2
theorem opx_cutLH_froz {d u : Nat} {T e wd bytes : Nat} {zs : List Value} [hT : SlT P T e wd bytes zs] {rows rows' : List (List CV)} {x y : Operand} {z : Operand} {zl zh : Int} {l h : Nat} {ty : TypeId} {pos : String} {af : Array Edge} {gd : Option (Nat × Bool)} (he : (rows.take h).drop l = rows') (hl : zl = (l : Int)) (hh : zh = (h : Int)) (hb : l ≤ h ∧ h ≤ rows.length) :
    OpX P ⟨some d, .slice T x (some y) (some z) none, ty, pos, af, gd⟩ [(x, .own u), (y, .i zl), (z, .i zh)] [(u, .froz wd rows)] [] [(d, .sl wd rows')] [] := by
  subst hl hh; subst he
  exact opx_slice_froz  (fun h => by cases h) (fun h => by cases h) hb.1 hb.2
theorem opx_cutH_str {d : Nat} {T : TypeId} [hT : StrT P T] {s s' : List UInt8} {x y : Operand} {z : Int} {h : Nat} {ty : TypeId} {pos : String} {af : Array Edge} {gd : Option (Nat × Bool)} (he : (s.take h).drop 0 = s') (hh : z = (h : Int)) (hb : h ≤ s.length) :
    OpX P ⟨some d, .slice T x none (some y) none, ty, pos, af, gd⟩ [(x, .str s), (y, .i z)] [] [] [(d, .str s')] [] := by
  subst hh; subst he
  exact opx_sslice (l := 0) (fun _ => rfl) (fun h => by cases h) (Nat.zero_le _) hb
theorem opx_cutL_str {d : Nat} {T : TypeId} [hT : StrT P T] {s s' : List UInt8} {x y : Operand} {z : Int} {l : Nat} {ty : TypeId} {pos : String} {af : Array Edge} {gd : Option (Nat × Bool)} (he : (s.take s.length).drop l = s') (hl : z = (l : Int)) (hb : l ≤ s.length) :
    OpX P ⟨some d, .slice T x (some y) none none, ty, pos, af, gd⟩ [(x, .str s), (y, .i z)] [] [] [(d, .str s')] [] := by
  subst hl; subst he
  exact opx_sslice (h := s.length) (fun h => by cases h) (fun _ => rfl) hb (Nat.le_refl _)
theorem opx_cutLH_str {d : Nat} {T : TypeId} [hT : StrT P T] {s s' : List UInt8} {x y : Operand} {z : Operand} {zl zh : Int} {l h : Nat} {ty : TypeId} {pos : String} {af : Array Edge} {gd : Option (Nat × Bool)} (he : (s.take h).drop l = s') (hl : zl = (l : Int)) (hh : zh = (h : Int)) (hb : l ≤ h ∧ h ≤ s.length) :
    OpX P ⟨some d, .slice T x (some y) (some z) none, ty, pos, af, gd⟩ [(x, .str s), (y, .i zl), (z, .i zh)] [] [] [(d, .str s')] [] := by
  subst hl hh; subst he
  exact opx_sslice  (fun h => by cases h) (fun h => by cases h) hb.1 hb.2
end cuts
end
end Go.Proofs.YtllgddednlfhfaaDoor

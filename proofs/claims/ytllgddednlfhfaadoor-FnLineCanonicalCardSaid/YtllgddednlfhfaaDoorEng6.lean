/-
  Operations on slices: literals, make, append, slices of slices, length, stores into elements.
-/
import Derived.Test.YtllgddednlfhfaaDoorEng5
namespace Go.Proofs.YtllgddednlfhfaaDoor
open Go.RowKit
set_option linter.unusedVariables false
set_option linter.unusedSimpArgs false

/-- What the slice value v of a call's own row is, olds its cells. -/
def OwnAt (w : World) (v : Value) (n wd : Nat) (e : TypeId) (olds : List Value) : Prop :=
  (v = .slice none 0 0 ∧ n = 0 ∧ olds = []) ∨
  ∃ g off cap cur, v = .slice (some ⟨g, off, none⟩) n cap ∧ w.heap[g]? = some (.cells cur e (0, 0)) ∧ n ≤ cap ∧ cap ≤ maxLen ∧ off + cap * wd ≤ cur.size ∧ olds.length = n * wd ∧
    ∀ k u, olds[k]? = some u → cur[off + k]? = some u

theorem flatten_len {wd : Nat} : ∀ {rows : List (List CV)}, (∀ r ∈ rows, r.length = wd) → rows.flatten.length = rows.length * wd
  | [], _ => by simp
  | r :: rows, h => by
    rw [List.flatten_cons, List.length_append, h r (.head _), flatten_len fun r hr => h r (.tail _ hr), List.length_cons, Nat.add_mul, Nat.one_mul, Nat.add_comm]

theorem do_row {ρ : Nat → Value} {Z : Nat → Prop} {w : World} {t wd : Nat} {e : TypeId} {rows : List (List CV)} :
    DO ρ Z w t (.row wd e rows) ↔ (∀ r ∈ rows, r.length = wd) ∧ ∃ us, DL Z w rows.flatten us ∧ OwnAt w (ρ t) rows.length wd e us := by
  constructor
  · rintro ⟨h1, h2 | ⟨g, off, cap, cur, us, h2, h3, h4, h5, h6, h7, h8⟩⟩
    · obtain ⟨h2, rfl⟩ := h2
      exact ⟨h1, [], trivial, .inl ⟨h2, rfl, rfl⟩⟩
    · exact ⟨h1, us, h7, .inr ⟨g, off, cap, cur, h2, h3, h4, h5, h6, by rw [h7.len, flatten_len h1], h8⟩⟩
  · rintro ⟨h1, us, h2, h3 | ⟨g, off, cap, cur, h3, h4, h5, h6, h7, h8, h9⟩⟩
    · exact ⟨h1, .inl ⟨h3.1, List.eq_nil_of_length_eq_zero h3.2.1⟩⟩
    · exact ⟨h1, .inr ⟨g, off, cap, cur, us, h3, h4, h5, h6, h7, h2, h9⟩⟩

section
variable {P : Program} (w : World)

theorem addr_add (g o n : Nat) : (⟨g, o, none⟩ : Addr).add n = ⟨g, o + n, none⟩ := by unfold Addr.add; split <;> simp_all

/-- append onto a slice of the call's own, the source nil or not. -/
theorem run_append_any {T ty e wd bytes : Nat} {zs : List Value} (hT : SlT P T e wd bytes zs) {v : Value} {n : Nat} {olds : List Value} (hv : OwnAt w v n wd e olds)
    {A : Option Addr} {m c : Nat} {news : List Value} (hl : news.length = m * wd) (hA : 0 < m → ∃ b o, A = some ⟨b, o, none⟩ ∧ ∀ k u, news[k]? = some u → w.cell? ⟨b, o + k, none⟩ = some u)
    (h1 : ∀ u ∈ news, u.oneCell' = true) (h63 : n + m ≤ maxLen) (hbytes : (n + m) * bytes ≤ 140737488355328) :
    ∃ v' w', (Builtin.append_ #[T, T] ty #[v, .slice A m c]).run P w = .ok v' w' ∧ w.grownBy w' (blk v) ∧ OwnAt w' v' (n + m) wd e (olds ++ news) ∧
      (∀ g, blk v' = some g → w.heap.size ≤ g ∨ blk v = some g) := by
  obtain ⟨i, z, hu, hi, hz, hs, hb, hzc, hzs⟩ := sl_parts hT
  subst hs
  subst hb
  have hsmall : n + m ≤ 9223372036854775807 := by simp only [maxLen] at h63; omega
  -- a nil source (or an empty one)
  by_cases hm : m = 0
  · subst hm
    have hn : news = [] := List.eq_nil_of_length_eq_zero (by simpa using hl)
    subst hn
    have hfc : ∀ w' : World, (Builtin.firstCells i.size 0 (.slice A 0 c)).run P w' = .ok #[] w' := by
      intro w'
      cases A with
      | none => simp [Builtin.firstCells]
      | some a => simp [Builtin.firstCells, loadCells, loadCellsFrom]
    refine ⟨v, w, ?_, ⟨rfl, rfl, rfl, Nat.le_refl _, fun _ _ _ => rfl⟩, by simpa using hv, fun g hg => .inr hg⟩
    rcases hv with ⟨rfl, rfl, rfl⟩ | ⟨g, off, cap, cur, rfl, _, hnc, _⟩
    · simp [Builtin.append_, run_underlying hu, sizeOf, typeInfo, hi, Builtin.lenOf, hfc]
    · simp [Builtin.append_, run_underlying hu, sizeOf, typeInfo, hi, Builtin.lenOf, hfc, hnc, storeCells]
  · obtain ⟨b, o, rfl, hcells⟩ := hA (by omega)
    have hcells' : ∀ j u, news[j]? = some u → w.cell? ((⟨b, o, none⟩ : Addr).add j) = some u := fun j u hj => by rw [addr_add]; exact hcells j u hj
    have hlen : ∀ {n}, olds.length = n * i.size → (olds ++ news).length = (n + m) * i.size := fun h => by rw [List.length_append, h, hl, Nat.add_mul]
    have grown : ∀ (old : Nat), old < n + m → olds.length = n * i.size →
        OwnAt (w.drew.alloc (.cells (olds.toArray ++ news.toArray ++ Builtin.zeroCells z.cells (grownCap w (n + m) old e - (n + m))) e)) (.slice (some ⟨w.heap.size, 0, none⟩) (n + m) (grownCap w (n + m) old e)) (n + m) i.size e (olds ++ news) := by
      intro old ho hlo
      have hge := grownCap_ge w (n + m) old e
      have hcm : grownCap w (n + m) old e ≤ maxLen := grownCap_le_maxLen w (n + m) old e h63
      refine .inr ⟨w.heap.size, 0, _, _, rfl, heap_alloc_new w.drew _, hge, hcm, ?_, hlen hlo, ?_⟩
      · simp only [Array.size_append, List.size_toArray, size_zeroCells, hzs, hl, hlo, ← Nat.add_mul, Nat.zero_add]
        apply Nat.mul_le_mul_right
        omega
      · intro k u hk
        have hlt : k < (olds ++ news).length := (List.getElem?_eq_some_iff.1 hk).1
        rw [List.length_append] at hlt
        rw [Nat.zero_add, Array.getElem?_append_left (by simpa using hlt)]
        simpa using hk
    have hgrow : ∀ X : Obj, w.grownBy (w.drew.alloc X) (blk v) := fun X => ⟨rfl, rfl, rfl, by simp, fun k hk _ => (World.grownBy_alloc w.drew X none).block k hk (by simp)⟩
    rcases hv with ⟨rfl, rfl, rfl⟩ | ⟨g, off, cap, cur, rfl, hg, hnc, hcm, hcs, holds, hcur⟩
    · have hr := run_append_nil (P := P) w T ty e i z hu hi hz ⟨b, o, none⟩ m c news hl hcells' (by omega) (by omega) (by have hb := hbytes; simp only [Nat.zero_add] at hb; omega)
      have hgr := grown 0 (by omega) (by simp)
      simp only [Nat.zero_add, List.nil_append, Array.empty_append] at hgr ⊢
      exact ⟨_, _, hr, hgrow _, hgr, fun g hg => by cases hg; exact .inl (Nat.le_refl _)⟩
    · by_cases hroom : n + m ≤ cap
      · have hfit : off + n * i.size + news.length ≤ cur.size := by
          rw [hl]
          have : (n + m) * i.size ≤ cap * i.size := Nat.mul_le_mul_right _ hroom
          rw [Nat.add_mul] at this
          omega
        have hf := run_firstCells_some (P := P) w i.size m ⟨b, o, none⟩ m c news hl hcells'
        have hst := run_storeCells_at P g (off + n * i.size) e news 0 cur w hg (by simpa using hfit) h1
        simp only [Nat.add_zero] at hst
        have hr : (Builtin.append_ #[T, T] ty #[.slice (some ⟨g, off, none⟩) n cap, .slice (some ⟨b, o, none⟩) m c]).run P w =
            .ok (.slice (some ⟨g, off, none⟩) (n + m) cap) (w.setRow g (cur.toList.take (off + n * i.size) ++ news ++ cur.toList.drop (off + n * i.size + news.length)).toArray) := by
          simp [Builtin.append_, run_underlying hu, sizeOf, typeInfo, hi, Builtin.lenOf, hroom, hf, addr_add, hst]
        refine ⟨_, _, hr, grownBy_setRow w g _, .inr ⟨g, off, cap, _, rfl, setRow_heap w g cur _ e _ hg, hroom, hcm, ?_, hlen holds, ?_⟩, fun k hk => .inr hk⟩
        · simp only [List.size_toArray, List.length_append, List.length_take, List.length_drop, Array.length_toList]
          omega
        · intro k u hk
          simp only [List.getElem?_toArray]
          have e1 : min (off + n * i.size) cur.toList.length = off + n * i.size := by simp; omega
          by_cases hlt : k < olds.length
          · rw [List.getElem?_append_left hlt] at hk
            rw [List.append_assoc, List.getElem?_append_left (by rw [List.length_take, e1]; omega), List.getElem?_take, if_pos (by omega)]
            simpa using hcur k u hk
          · rw [List.getElem?_append_right (by omega)] at hk
            have hlt2 : k - olds.length < news.length := (List.getElem?_eq_some_iff.1 hk).1
            rw [List.append_assoc, List.getElem?_append_right (by rw [List.length_take, e1]; omega), List.getElem?_append_left (by rw [List.length_take, e1]; omega), List.length_take, e1, ← hk]
            congr 1
            omega
      · have holds' : ∀ j u, olds[j]? = some u → w.cell? ((⟨g, off, none⟩ : Addr).add j) = some u := fun j u hj => by
          rw [addr_add, World.cell?, hg]; simpa using hcur j u hj
        have hr := run_append_grow (P := P) w T ty e i z hu hi hz ⟨g, off, none⟩ n cap olds holds holds' ⟨b, o, none⟩ m c news hl hcells' (by omega) (by omega) (growslice_fits (by omega) hbytes)
        exact ⟨_, _, hr, hgrow _, grown cap (by omega) holds, fun k hk => by cases hk; exact .inl (Nat.le_refl _)⟩
end

/-! ### what a slice operand reads as -/
/-- The value of a slice operand: its rows, whatever holds it. -/
def SlV (O : Nat → OB) : AV → Nat → List (List CV) → Prop
  | .r (.one (.c (.sl wd rows))), wd', rows' => wd = wd' ∧ rows = rows'
  | .r (.one (.c (.raw v))), wd, rows => v = .slice none 0 0 ∧ rows = []
  | .r (.one (.own t)), wd, rows => O t = .froz wd rows ∨ ∃ e, O t = .row wd e rows
  | _, _, _ => False

theorem slv_read {cx : Cx} {S : Nat → AV} {O : Nat → OB} {V : Nat → Prop} {a : Act} {w : World} {ρ : Nat → Value} {Z : Nat → Prop} (hg : Good cx S O V a w ρ Z)
    {av : AV} {wd : Nat} {rows : List (List CV)} (h : SlV O av wd rows) {v : Value} (hv : DA ρ Z w av v) :
    ∃ A c us, v = .slice A rows.length c ∧ rows.length ≤ c ∧ c ≤ maxLen ∧ (∀ r ∈ rows, r.length = wd) ∧ DL Z w rows.flatten us ∧
      (0 < rows.length → ∃ b o, A = some ⟨b, o, none⟩ ∧ ∀ k u, us[k]? = some u → w.cell? ⟨b, o + k, none⟩ = some u) := by
  have fromDC : ∀ {v}, DC Z w (.sl wd rows) v → ∃ A c us, v = .slice A rows.length c ∧ rows.length ≤ c ∧ c ≤ maxLen ∧ (∀ r ∈ rows, r.length = wd) ∧ DL Z w rows.flatten us ∧
      (0 < rows.length → ∃ b o, A = some ⟨b, o, none⟩ ∧ ∀ k u, us[k]? = some u → w.cell? ⟨b, o + k, none⟩ = some u) := by
    intro v h
    cases h with
    | nil _ ao cap hm => exact ⟨ao, cap, [], rfl, Nat.zero_le _, hm, by simp, trivial, by simp⟩
    | sl _ _ b off n cap us hn hw hz hc hm hl hcell hd =>
      subst hn
      exact ⟨_, cap, us, rfl, hc, hm, hw, DL.mk hl hd, fun _ => ⟨b, off, rfl, hcell⟩⟩
  match av, h with
  | .r (.one (.c (.sl wd' rows'))), h =>
    obtain ⟨rfl, rfl⟩ := h
    exact fromDC hv
  | .r (.one (.c (.raw u))), h =>
    obtain ⟨rfl, rfl⟩ := h
    rw [da_raw hv]
    exact ⟨none, 0, [], rfl, Nat.zero_le _, Nat.zero_le _, by simp, trivial, by simp⟩
  | .r (.one (.own t)), h =>
    have hv1 : v = ρ t := hv.1
    have ho := hg.obj t
    rcases h with h | ⟨e, h⟩
    · rw [h] at ho
      rw [hv1]
      exact fromDC ho
    · have hl : (O t).live = true := by rw [h]; rfl
      rw [h] at ho
      obtain ⟨h1, us, h2, h3⟩ := do_row.1 ho
      rw [hv1]
      rcases h3 with ⟨h4, h5, rfl⟩ | ⟨g, off, cap, cur, h4, h5, h6, h7, h8, h9, h10⟩
      · have : rows = [] := List.eq_nil_of_length_eq_zero h5
        subst this
        exact ⟨none, 0, [], h4, Nat.zero_le _, Nat.zero_le _, by simp, trivial, by simp⟩
      · refine ⟨_, cap, us, h4, h6, h7, h1, h2, fun _ => ⟨g, off, rfl, fun k u hk => ?_⟩⟩
        rw [World.cell?, h5]
        simpa using h10 k u hk

section
variable {P : Program} {R : List (Operand × AV)} {RO : List (Nat × OB)}
variable {d : Nat} {x y z : Operand} {t t' ty : TypeId} {pos : String} {af : Array Edge} {gd : Option (Nat × Bool)}

theorem len_run {T e wd bytes : Nat} {zs : List Value} (hT : SlT P T e wd bytes zs) (w : World) (A : Option Addr) (n c : Nat) : (Builtin.len_ #[T] ty #[.slice A n c]).run P w = .ok (.int .i64 n) w := by
  obtain ⟨i, z, hu, _⟩ := sl_parts hT
  simp [Builtin.len_, run_underlying hu, goInt]

theorem opx_len (RO : List (Nat × OB)) {T e wd bytes : Nat} {zs : List Value} [hT : SlT P T e wd bytes zs] {av : AV} {rows : List (List CV)} (h : ∀ O, OgL O RO → SlV O av wd rows) :
    OpX P ⟨some d, .call { callee := .builtin .len, args := #[x], argTypes := #[T] }, ty, pos, af, gd⟩ [(x, av)] RO [] [(d, .i rows.length)] [] :=
  opx_val rfl fun cx S O V a w ρ Z hg hR hO => by
    obtain ⟨A, c, us, h1, _⟩ := slv_read hg (h O hO) (hg.ag hR.1)
    refine ⟨.int .i64 rows.length, ?_, da_mk rfl, by simp [AV.tags, AR.tags, A1.tag]⟩
    simp [execOp, resolve, invoke, builtin, h1, len_run hT]

theorem opx_len_sl {T e wd bytes : Nat} {zs : List Value} [hT : SlT P T e wd bytes zs] {rows : List (List CV)} :
    OpX P ⟨some d, .call { callee := .builtin .len, args := #[x], argTypes := #[T] }, ty, pos, af, gd⟩ [(x, .sl wd rows)] [] [] [(d, .i rows.length)] [] := opx_len [] fun _ _ => ⟨rfl, rfl⟩
theorem opx_len_nil {T e wd bytes : Nat} {zs : List Value} [hT : SlT P T e wd bytes zs] :
    OpX P ⟨some d, .call { callee := .builtin .len, args := #[x], argTypes := #[T] }, ty, pos, af, gd⟩ [(x, .raw (.slice none 0 0))] [] [] [(d, .i 0)] [] := opx_len (rows := []) [] fun _ _ => ⟨rfl, rfl⟩
theorem opx_len_own {u : Nat} {T e wd bytes e' : Nat} {zs : List Value} [hT : SlT P T e wd bytes zs] {rows : List (List CV)} :
    OpX P ⟨some d, .call { callee := .builtin .len, args := #[x], argTypes := #[T] }, ty, pos, af, gd⟩ [(x, .own u)] [(u, .row wd e' rows)] [] [(d, .i rows.length)] [] := opx_len _ fun _ h => .inr ⟨_, h.1⟩
theorem opx_len_froz {u : Nat} {T e wd bytes : Nat} {zs : List Value} [hT : SlT P T e wd bytes zs] {rows : List (List CV)} :
    OpX P ⟨some d, .call { callee := .builtin .len, args := #[x], argTypes := #[T] }, ty, pos, af, gd⟩ [(x, .own u)] [(u, .froz wd rows)] [] [(d, .i rows.length)] [] := opx_len _ fun _ h => .inl h.1

class StrT (P : Program) (T : TypeId) : Prop where
  ok : P.underlying T = some .string

theorem opx_len_str {T : TypeId} [hT : StrT P T] {s : List UInt8} :
    OpX P ⟨some d, .call { callee := .builtin .len, args := #[x], argTypes := #[T] }, ty, pos, af, gd⟩ [(x, .str s)] [] [] [(d, .i s.length)] [] :=
  opx_val rfl fun cx S O V a w ρ Z hg hR hO => by
    refine ⟨.int .i64 s.length, ?_, da_mk rfl, by simp [AV.tags, AR.tags, A1.tag]⟩
    have : (⟨s.toArray⟩ : ByteArray).size = s.length := by simp [ByteArray.size]
    simp [execOp, resolve, invoke, builtin, da_raw (hg.ag hR.1), Builtin.len_, run_underlying hT.ok, goInt, this]

theorem opx_max2 {m n : Int} {T1 T2 : TypeId} : OpX P ⟨some d, .call { callee := .builtin .max, args := #[x, y], argTypes := #[T1, T2] }, ty, pos, af, gd⟩ [(x, .i m), (y, .i n)] [] [] [(d, .i (max m n))] [] :=
  opx_val rfl fun cx S O V a w ρ Z hg hR hO => by
    refine ⟨.int .i64 (max m n), ?_, da_mk rfl, by simp [AV.tags, AR.tags, A1.tag]⟩
    have e : (if n > m then n else m) = max m n := by split <;> omega
    simp [execOp, resolve, invoke, builtin, da_raw (hg.ag hR.1), da_raw (hg.ag hR.2.1), Builtin.max_, Builtin.max2, e]
theorem opx_min2 {m n : Int} {T1 T2 : TypeId} : OpX P ⟨some d, .call { callee := .builtin .min, args := #[x, y], argTypes := #[T1, T2] }, ty, pos, af, gd⟩ [(x, .i m), (y, .i n)] [] [] [(d, .i (min m n))] [] :=
  opx_val rfl fun cx S O V a w ρ Z hg hR hO => by
    refine ⟨.int .i64 (min m n), ?_, da_mk rfl, by simp [AV.tags, AR.tags, A1.tag]⟩
    have e : (if n < m then n else m) = min m n := by split <;> omega
    simp [execOp, resolve, invoke, builtin, da_raw (hg.ag hR.1), da_raw (hg.ag hR.2.1), Builtin.min_, Builtin.min2, e]

/-! ### append -/
theorem Good.append {cx : Cx} {S : Nat → AV} {O : Nat → OB} {V : Nat → Prop} {a : Act} {w : World} {ρ : Nat → Value} {Z : Nat → Prop} (hg : Good cx S O V a w ρ Z)
    {u n : Nat} {T e wd bytes : Nat} {zs : List Value} (hT : SlT P T e wd bytes zs) {rows news : List (List CV)} {av : AV} {v2 : Value} (hO1 : O u = .row wd e rows) (h : SlV O av wd news) (hv2 : DA ρ Z w av v2)
    (h63 : rows.length + news.length ≤ maxLen) (hbytes : (rows.length + news.length) * bytes ≤ 140737488355328) (hV : V n) (ty : TypeId) :
    ∃ v' w', (Builtin.append_ #[T, T] ty #[ρ u, v2]).run P w = .ok v' w' ∧ v'.oneCell' = true ∧
      Good cx S (lkf O [(n, .row wd e (rows ++ news)), (u, .gone)]) (fun s => V s ∧ s ≠ n) a w' (fun s => if s = n then v' else ρ s) Z := by
  have ho := hg.obj u
  rw [hO1] at ho
  obtain ⟨hw1, us, hd1, hown⟩ := do_row.1 ho
  obtain ⟨A, c, vs, hy, hc1, hc2, hw2, hd2, hcell⟩ := slv_read hg h hv2
  have hl : (O u).live = true := by rw [hO1]; rfl
  obtain ⟨v', w', hrun, hgr, hown', hblk⟩ := run_append_any (P := P) w (ty := ty) hT hown (A := A) (m := news.length) (c := c) (news := vs) (by rw [hd2.len, flatten_len hw2]) hcell hd2.one h63 hbytes
  have hsame : Same Z w w' := fun g hz => hgr.block g (hg.zlt g hz) (fun e => (hg.out u g hl e.symm).1 hz)
  refine ⟨v', w', by rw [hy]; exact hrun, by rcases hown' with ⟨rfl, _⟩ | ⟨g, off, cap, cur, rfl, _⟩ <;> rfl, ?_⟩
  exact hg.subst (w' := w') (t := u) (u := n) (v := v') (ob := .row wd e (rows ++ news)) hl hV hgr
    (do_row.2 ⟨fun r hr => by rcases List.mem_append.1 hr with h | h; exact hw1 r h; exact hw2 r h, us ++ vs, by
      rw [List.flatten_append]
      exact DL.append (hd1.mono (fun _ h => h) hsame) (hd2.mono (fun _ h => h) hsame), by
      rw [List.length_append]; simpa using hown'⟩) hblk (by simp [OB.tags])

/-- Result of an append onto the call's own slice u: under a new tag n. -/
theorem opx_append {u n : Nat} (RO : List (Nat × OB)) {T e wd bytes : Nat} {zs : List Value} [hT : SlT P T e wd bytes zs] {rows news : List (List CV)} {av : AV}
    (h : ∀ O, OgL O RO → SlV O av wd news) (h63 : rows.length + news.length ≤ maxLen) (hbytes : (rows.length + news.length) * bytes ≤ 140737488355328) :
    OpX P ⟨some d, .call { callee := .builtin .append, args := #[x, y], argTypes := #[T, T] }, ty, pos, af, gd⟩ [(x, .own u), (y, av)] ((u, .row wd e rows) :: RO) [n] [(d, .own n)] [(n, .row wd e (rows ++ news)), (u, .gone)] := by
  intro cx S O V a w hR hO hV hU ⟨ρ, Z, hg⟩ K Q hK
  obtain ⟨hO1, hO2⟩ := hO
  have hx : a.eval x = ρ u := (hg.ag hR.1).1
  obtain ⟨v', w', hrun, h1, hn⟩ := hg.append hT hO1 (h O hO2) (hg.ag hR.2.1) h63 hbytes hV.1 ty
  unfold Oper.wp
  have hexec : (execOp a.eval ⟨some d, .call { callee := .builtin .append, args := #[x, y], argTypes := #[T, T] }, ty, pos, af, gd⟩).run P w = .ok (.value v') w' := by
    simp [execOp, resolve, invoke, builtin, hx, hrun]
  rw [hexec]
  show K (a.put (some d) v') w'
  have hda : DA (fun s => if s = n then v' else ρ s) Z w' (.own n) v' := ⟨by simp, h1⟩
  refine hK _ _ ⟨_, Z, (hn.put (blt_lt hU.1) hda ?_).weak fun s hs => ⟨hs.1, fun e => hs.2 (by simp [e])⟩⟩
  intro s hs hv
  simp [AV.tags, AR.tags, A1.tag] at hs
  exact hv.2 hs

/-- A nil slice that nobody holds yet, as an object of the call's own. -/
theorem Good.ownNil {cx : Cx} {S : Nat → AV} {O : Nat → OB} {V : Nat → Prop} {a : Act} {w : World} {ρ : Nat → Value} {Z : Nat → Prop} (hg : Good cx S O V a w ρ Z) {n wd : Nat} {e : TypeId} (hV : V n) :
    Good cx S (lkf O [(n, .row wd e [])]) (fun s => V s ∧ s ≠ n) a w (fun s => if s = n then .slice none 0 0 else ρ s) Z :=
  hg.new hV ⟨rfl, rfl, rfl, Nat.le_refl _, fun _ _ _ => rfl⟩ (v := .slice none 0 0) (ob := .row wd e []) (do_row.2 ⟨by simp, [], trivial, .inl ⟨by simp, rfl, rfl⟩⟩) (by intro g h; cases h) (by simp [OB.tags])

/-- Append onto nil. -/
theorem opx_append_nil {n : Nat} (RO : List (Nat × OB)) {T e wd bytes : Nat} {zs : List Value} [hT : SlT P T e wd bytes zs] {news : List (List CV)} {av : AV}
    (h : ∀ O, OgL O RO → SlV O av wd news) (h63 : news.length ≤ maxLen) (hbytes : news.length * bytes ≤ 140737488355328) :
    OpX P ⟨some d, .call { callee := .builtin .append, args := #[x, y], argTypes := #[T, T] }, ty, pos, af, gd⟩ [(x, .raw (.slice none 0 0)), (y, av)] RO [n] [(d, .own n)] [(n, .row wd e news)] := by
  intro cx S O V a w hR hO hV hU ⟨ρ, Z, hg⟩ K Q hK
  have hx : a.eval x = .slice none 0 0 := da_raw (hg.ag hR.1)
  obtain ⟨A, c, vs, hy, hc1, hc2, hw2, hd2, hcell⟩ := slv_read hg (h O hO) (hg.ag hR.2.1)
  obtain ⟨v', w', hrun, hgr, hown', hblk⟩ := run_append_any (P := P) w (ty := ty) hT (v := .slice none 0 0) (n := 0) (olds := []) (.inl ⟨rfl, rfl, rfl⟩) (A := A) (m := news.length) (c := c) (news := vs) (by rw [hd2.len, flatten_len hw2]) hcell hd2.one (by simpa using h63) (by simpa using hbytes)
  have hgr' : w.grownBy w' none := hgr
  have hsame : Same Z w w' := fun g hz => hgr'.block g (hg.zlt g hz) (by simp)
  have h1 : v'.oneCell' = true := by rcases hown' with ⟨rfl, _⟩ | ⟨g, off, cap, cur, rfl, _⟩ <;> rfl
  have hn := hg.new hV.1 hgr' (v := v') (ob := .row wd e news) (do_row.2 ⟨hw2, vs, hd2.mono (fun _ h => h) hsame, by simpa using hown'⟩) (fun g hb => (hblk g hb).elim id (fun h => by cases h)) (by simp [OB.tags])
  unfold Oper.wp
  have hexec : (execOp a.eval ⟨some d, .call { callee := .builtin .append, args := #[x, y], argTypes := #[T, T] }, ty, pos, af, gd⟩).run P w = .ok (.value v') w' := by
    simp [execOp, resolve, invoke, builtin, hx, hy, hrun]
  rw [hexec]
  show K (a.put (some d) v') w'
  have hda : DA (fun s => if s = n then v' else ρ s) Z w' (.own n) v' := ⟨by simp, h1⟩
  refine hK _ _ ⟨_, Z, (hn.put (blt_lt hU.1) hda ?_).weak fun s hs => ⟨hs.1, fun e => hs.2 (by simp [e])⟩⟩
  intro s hs hv
  simp [AV.tags, AR.tags, A1.tag] at hs
  exact hv.2 hs
end
end Go.Proofs.YtllgddednlfhfaaDoor

/- Texts: Eng6 Eng7 Eng8 -/
import Derived.Test.YtokhfcfnhgianaaCG2
/-
  Operations on slices: literals, make, append, slices of slices, length, stores into elements.
-/
namespace Go.Proofs.Ytokhfcfnhgianaa
open Go.RowKit
set_option linter.unusedVariables false
set_option linter.unusedSimpArgs false

/-- What the slice value v of a call's own row is, olds its cells. -/
def OwnAt (w : World) (v : Value) (n wd : Nat) (e : TypeId) (olds : List Value) : Prop :=
  (v = .slice none 0 0 ∧ n = 0 ∧ olds = []) ∨
  ∃ g off cap cur, v = .slice (some ⟨g, off, none⟩) n cap ∧ w.heap[g]? = some (.cells cur e (0, 0)) ∧ n ≤ cap ∧ cap ≤ maxLen ∧ off + cap * wd ≤ cur.size ∧ olds.length = n * wd ∧
    ∀ k u, olds[k]? = some u → cur[off + k]? = some u

theorem flatten_len {wd : Nat} : ∀ {rows : List (List CV)}, (∀ r ∈ rows, r.length = wd) → rows.flatten.length = rows.length * wd
  | [], _ => by simp
  | r :: rows, h => by
    rw [List.flatten_cons, List.length_append, h r (.head _), flatten_len fun r hr => h r (.tail _ hr), List.length_cons, Nat.add_mul, Nat.one_mul, Nat.add_comm]

theorem do_row {ρ : Nat → Value} {Z : Nat → Prop} {w : World} {t wd : Nat} {e : TypeId} {rows : List (List CV)} :
    DO ρ Z w t (.row wd e rows) ↔ (∀ r ∈ rows, r.length = wd) ∧ ∃ us, DL Z w rows.flatten us ∧ OwnAt w (ρ t) rows.length wd e us := by
  constructor
  · rintro ⟨h1, h2 | ⟨g, off, cap, cur, us, h2, h3, h4, h5, h6, h7, h8⟩⟩
    · obtain ⟨h2, rfl⟩ := h2
      exact ⟨h1, [], trivial, .inl ⟨h2, rfl, rfl⟩⟩
    · exact ⟨h1, us, h7, .inr ⟨g, off, cap, cur, h2, h3, h4, h5, h6, by rw [h7.len, flatten_len h1], h8⟩⟩
  · rintro ⟨h1, us, h2, h3 | ⟨g, off, cap, cur, h3, h4, h5, h6, h7, h8, h9⟩⟩
    · exact ⟨h1, .inl ⟨h3.1, List.eq_nil_of_length_eq_zero h3.2.1⟩⟩
    · exact ⟨h1, .inr ⟨g, off, cap, cur, us, h3, h4, h5, h6, h7, h2, h9⟩⟩

section
variable {P : Program} (w : World)

theorem addr_add (g o n : Nat) : (⟨g, o, none⟩ : Addr).add n = ⟨g, o + n, none⟩ := by unfold Addr.add; split <;> simp_all

/-- append onto a slice of the call's own, the source nil or not. -/
theorem run_append_any {T ty e wd bytes : Nat} {zs : List Value} (hT : SlT P T e wd bytes zs) {v : Value} {n : Nat} {olds : List Value} (hv : OwnAt w v n wd e olds)
    {A : Option Addr} {m c : Nat} {news : List Value} (hl : news.length = m * wd) (hA : 0 < m → ∃ b o, A = some ⟨b, o, none⟩ ∧ ∀ k u, news[k]? = some u → w.cell? ⟨b, o + k, none⟩ = some u)
    (h1 : ∀ u ∈ news, u.oneCell' = true) (h63 : n + m ≤ maxLen) (hbytes : (n + m) * bytes ≤ 140737488355328) :
    ∃ v' w', (Builtin.append_ #[T, T] ty #[v, .slice A m c]).run P w = .ok v' w' ∧ w.grownBy w' (blk v) ∧ OwnAt w' v' (n + m) wd e (olds ++ news) ∧
      (∀ g, blk v' = some g → w.heap.size ≤ g ∨ blk v = some g) := by
  obtain ⟨i, z, hu, hi, hz, hs, hb, hzc, hzs⟩ := sl_parts hT
  subst hs
  subst hb
  have hsmall : n + m ≤ 9223372036854775807 := by simp only [maxLen] at h63; omega
  -- a nil source (or an empty one)
  by_cases hm : m = 0
  · subst hm
    have hn : news = [] := List.eq_nil_of_length_eq_zero (by simpa using hl)
    subst hn
    have hfc : ∀ w' : World, (Builtin.firstCells i.size 0 (.slice A 0 c)).run P w' = .ok #[] w' := by
      intro w'
      cases A with
      | none => simp [Builtin.firstCells]
      | some a => simp [Builtin.firstCells, loadCells, loadCellsFrom]
    refine ⟨v, w, ?_, ⟨rfl, rfl, rfl, Nat.le_refl _, fun _ _ _ => rfl⟩, by simpa using hv, fun g hg => .inr hg⟩
    rcases hv with ⟨rfl, rfl, rfl⟩ | ⟨g, off, cap, cur, rfl, _, hnc, _⟩
    · simp [Builtin.append_, run_underlying hu, sizeOf, typeInfo, hi, Builtin.lenOf, hfc]
    · simp [Builtin.append_, run_underlying hu, sizeOf, typeInfo, hi, Builtin.lenOf, hfc, hnc, storeCells]
  · obtain ⟨b, o, rfl, hcells⟩ := hA (by omega)
    have hcells' : ∀ j u, news[j]? = some u → w.cell? ((⟨b, o, none⟩ : Addr).add j) = some u := fun j u hj => by rw [addr_add]; exact hcells j u hj
    have hlen : ∀ {n}, olds.length = n * i.size → (olds ++ news).length = (n + m) * i.size := fun h => by rw [List.length_append, h, hl, Nat.add_mul]
    have grown : ∀ (old : Nat), old < n + m → olds.length = n * i.size →
        OwnAt (w.drew.alloc (.cells (olds.toArray ++ news.toArray ++ Builtin.zeroCells z.cells (grownCap w (n + m) old e - (n + m))) e)) (.slice (some ⟨w.heap.size, 0, none⟩) (n + m) (grownCap w (n + m) old e)) (n + m) i.size e (olds ++ news) := by
      intro old ho hlo
      have hge := grownCap_ge w (n + m) old e
      have hcm : grownCap w (n + m) old e ≤ maxLen := grownCap_le_maxLen w (n + m) old e h63
      refine .inr ⟨w.heap.size, 0, _, _, rfl, heap_alloc_new w.drew _, hge, hcm, ?_, hlen hlo, ?_⟩
      · simp only [Array.size_append, List.size_toArray, size_zeroCells, hzs, hl, hlo, ← Nat.add_mul, Nat.zero_add]
        apply Nat.mul_le_mul_right
        omega
      · intro k u hk
        have hlt : k < (olds ++ news).length := (List.getElem?_eq_some_iff.1 hk).1
        rw [List.length_append] at hlt
        rw [Nat.zero_add, Array.getElem?_append_left (by simpa using hlt)]
        simpa using hk
    have hgrow : ∀ X : Obj, w.grownBy (w.drew.alloc X) (blk v) := fun X => ⟨rfl, rfl, rfl, by simp, fun k hk _ => (World.grownBy_alloc w.drew X none).block k hk (by simp)⟩
    rcases hv with ⟨rfl, rfl, rfl⟩ | ⟨g, off, cap, cur, rfl, hg, hnc, hcm, hcs, holds, hcur⟩
    · have hr := run_append_nil (P := P) w T ty e i z hu hi hz ⟨b, o, none⟩ m c news hl hcells' (by omega) (by omega) (by have hb := hbytes; simp only [Nat.zero_add] at hb; omega)
      have hgr := grown 0 (by omega) (by simp)
      simp only [Nat.zero_add, List.nil_append, Array.empty_append] at hgr ⊢
      exact ⟨_, _, hr, hgrow _, hgr, fun g hg => by cases hg; exact .inl (Nat.le_refl _)⟩
    · by_cases hroom : n + m ≤ cap
      · have hfit : off + n * i.size + news.length ≤ cur.size := by
          rw [hl]
          have : (n + m) * i.size ≤ cap * i.size := Nat.mul_le_mul_right _ hroom
          rw [Nat.add_mul] at this
          omega
        have hf := run_firstCells_some (P := P) w i.size m ⟨b, o, none⟩ m c news hl hcells'
        have hst := run_storeCells_at P g (off + n * i.size) e news 0 cur w hg (by simpa using hfit) h1
        simp only [Nat.add_zero] at hst
        have hr : (Builtin.append_ #[T, T] ty #[.slice (some ⟨g, off, none⟩) n cap, .slice (some ⟨b, o, none⟩) m c]).run P w =
            .ok (.slice (some ⟨g, off, none⟩) (n + m) cap) (w.setRow g (cur.toList.take (off + n * i.size) ++ news ++ cur.toList.drop (off + n * i.size + news.length)).toArray) := by
          simp [Builtin.append_, run_underlying hu, sizeOf, typeInfo, hi, Builtin.lenOf, hroom, hf, addr_add, hst]
        refine ⟨_, _, hr, grownBy_setRow w g _, .inr ⟨g, off, cap, _, rfl, setRow_heap w g cur _ e _ hg, hroom, hcm, ?_, hlen holds, ?_⟩, fun k hk => .inr hk⟩
        · simp only [List.size_toArray, List.length_append, List.length_take, List.length_drop, Array.length_toList]
          omega
        · intro k u hk
          simp only [List.getElem?_toArray]
          have e1 : min (off + n * i.size) cur.toList.length = off + n * i.size := by simp; omega
          by_cases hlt : k < olds.length
          · rw [List.getElem?_append_left hlt] at hk
            rw [List.append_assoc, List.getElem?_append_left (by rw [List.length_take, e1]; omega), List.getElem?_take, if_pos (by omega)]
            simpa using hcur k u hk
          · rw [List.getElem?_append_right (by omega)] at hk
            have hlt2 : k - olds.length < news.length := (List.getElem?_eq_some_iff.1 hk).1
            rw [List.append_assoc, List.getElem?_append_right (by rw [List.length_take, e1]; omega), List.getElem?_append_left (by rw [List.length_take, e1]; omega), List.length_take, e1, ← hk]
            congr 1
            omega
      · have holds' : ∀ j u, olds[j]? = some u → w.cell? ((⟨g, off, none⟩ : Addr).add j) = some u := fun j u hj => by
          rw [addr_add, World.cell?, hg]; simpa using hcur j u hj
        have hr := run_append_grow (P := P) w T ty e i z hu hi hz ⟨g, off, none⟩ n cap olds holds holds' ⟨b, o, none⟩ m c news hl hcells' (by omega) (by omega) (growslice_fits (by omega) hbytes)
        exact ⟨_, _, hr, hgrow _, grown cap (by omega) holds, fun k hk => by cases hk; exact .inl (Nat.le_refl _)⟩
end

/-- The value of a slice operand: its rows, whatever holds it. -/
def SlV (O : Nat → OB) : AV → Nat → List (List CV) → Prop
  | .r (.one (.c (.sl wd rows))), wd', rows' => wd = wd' ∧ rows = rows'
  | .r (.one (.c (.raw v))), wd, rows => v = .slice none 0 0 ∧ rows = []
  | .r (.one (.own t)), wd, rows => O t = .froz wd rows ∨ ∃ e, O t = .row wd e rows
  | _, _, _ => False

theorem slv_read {cx : Cx} {S : Nat → AV} {O : Nat → OB} {V : Nat → Prop} {a : Act} {w : World} {ρ : Nat → Value} {Z : Nat → Prop} (hg : Good cx S O V a w ρ Z)
    {av : AV} {wd : Nat} {rows : List (List CV)} (h : SlV O av wd rows) {v : Value} (hv : DA ρ Z w av v) :
    ∃ A c us, v = .slice A rows.length c ∧ rows.length ≤ c ∧ c ≤ maxLen ∧ (∀ r ∈ rows, r.length = wd) ∧ DL Z w rows.flatten us ∧
      (0 < rows.length → ∃ b o, A = some ⟨b, o, none⟩ ∧ ∀ k u, us[k]? = some u → w.cell? ⟨b, o + k, none⟩ = some u) := by
  have fromDC : ∀ {v}, DC Z w (.sl wd rows) v → ∃ A c us, v = .slice A rows.length c ∧ rows.length ≤ c ∧ c ≤ maxLen ∧ (∀ r ∈ rows, r.length = wd) ∧ DL Z w rows.flatten us ∧
      (0 < rows.length → ∃ b o, A = some ⟨b, o, none⟩ ∧ ∀ k u, us[k]? = some u → w.cell? ⟨b, o + k, none⟩ = some u) := by
    intro v h
    cases h with
    | nil _ ao cap hm => exact ⟨ao, cap, [], rfl, Nat.zero_le _, hm, by simp, trivial, by simp⟩
    | sl _ _ b off n cap us hn hw hz hc hm hl hcell hd =>
      subst hn
      exact ⟨_, cap, us, rfl, hc, hm, hw, DL.mk hl hd, fun _ => ⟨b, off, rfl, hcell⟩⟩
  match av, h with
  | .r (.one (.c (.sl wd' rows'))), h =>
    obtain ⟨rfl, rfl⟩ := h
    exact fromDC hv
  | .r (.one (.c (.raw u))), h =>
    obtain ⟨rfl, rfl⟩ := h
    rw [da_raw hv]
    exact ⟨none, 0, [], rfl, Nat.zero_le _, Nat.zero_le _, by simp, trivial, by simp⟩
  | .r (.one (.own t)), h =>
    have hv1 : v = ρ t := hv.1
    have ho := hg.obj t
    rcases h with h | ⟨e, h⟩
    · rw [h] at ho
      rw [hv1]
      exact fromDC ho
    · have hl : (O t).live = true := by rw [h]; rfl
      rw [h] at ho
      obtain ⟨h1, us, h2, h3⟩ := do_row.1 ho
      rw [hv1]
      rcases h3 with ⟨h4, h5, rfl⟩ | ⟨g, off, cap, cur, h4, h5, h6, h7, h8, h9, h10⟩
      · have : rows = [] := List.eq_nil_of_length_eq_zero h5
        subst this
        exact ⟨none, 0, [], h4, Nat.zero_le _, Nat.zero_le _, by simp, trivial, by simp⟩
      · refine ⟨_, cap, us, h4, h6, h7, h1, h2, fun _ => ⟨g, off, rfl, fun k u hk => ?_⟩⟩
        rw [World.cell?, h5]
        simpa using h10 k u hk

section
variable {P : Program} {R : List (Operand × AV)} {RO : List (Nat × OB)}
variable {d : Nat} {x y z : Operand} {t t' ty : TypeId} {pos : String} {af : Array Edge} {gd : Option (Nat × Bool)}

theorem len_run {T e wd bytes : Nat} {zs : List Value} (hT : SlT P T e wd bytes zs) (w : World) (A : Option Addr) (n c : Nat) : (Builtin.len_ #[T] ty #[.slice A n c]).run P w = .ok (.int .i64 n) w := by
  obtain ⟨i, z, hu, _⟩ := sl_parts hT
  simp [Builtin.len_, run_underlying hu, goInt]

theorem opx_len (RO : List (Nat × OB)) {T e wd bytes : Nat} {zs : List Value} [hT : SlT P T e wd bytes zs] {av : AV} {rows : List (List CV)} (h : ∀ O, OgL O RO → SlV O av wd rows) :
    OpX P ⟨some d, .call { callee := .builtin .len, args := #[x], argTypes := #[T] }, ty, pos, af, gd⟩ [(x, av)] RO [] [(d, .i rows.length)] [] :=
  opx_val rfl fun cx S O V a w ρ Z hg hR hO => by
    obtain ⟨A, c, us, h1, _⟩ := slv_read hg (h O hO) (hg.ag hR.1)
    refine ⟨.int .i64 rows.length, ?_, da_mk rfl, by simp [AV.tags, AR.tags, A1.tag]⟩
    simp [execOp, resolve, invoke, builtin, h1, len_run hT]

theorem opx_len_sl {T e wd bytes : Nat} {zs : List Value} [hT : SlT P T e wd bytes zs] {rows : List (List CV)} :
    OpX P ⟨some d, .call { callee := .builtin .len, args := #[x], argTypes := #[T] }, ty, pos, af, gd⟩ [(x, .sl wd rows)] [] [] [(d, .i rows.length)] [] := opx_len [] fun _ _ => ⟨rfl, rfl⟩
theorem opx_len_own {u : Nat} {T e wd bytes e' : Nat} {zs : List Value} [hT : SlT P T e wd bytes zs] {rows : List (List CV)} :
    OpX P ⟨some d, .call { callee := .builtin .len, args := #[x], argTypes := #[T] }, ty, pos, af, gd⟩ [(x, .own u)] [(u, .row wd e' rows)] [] [(d, .i rows.length)] [] := opx_len _ fun _ h => .inr ⟨_, h.1⟩
class StrT (P : Program) (T : TypeId) : Prop where
  ok : P.underlying T = some .string

theorem opx_len_str {T : TypeId} [hT : StrT P T] {s : List UInt8} :
    OpX P ⟨some d, .call { callee := .builtin .len, args := #[x], argTypes := #[T] }, ty, pos, af, gd⟩ [(x, .str s)] [] [] [(d, .i s.length)] [] :=
  opx_val rfl fun cx S O V a w ρ Z hg hR hO => by
    refine ⟨.int .i64 s.length, ?_, da_mk rfl, by simp [AV.tags, AR.tags, A1.tag]⟩
    have : (⟨s.toArray⟩ : ByteArray).size = s.length := by simp [ByteArray.size]
    simp [execOp, resolve, invoke, builtin, da_raw (hg.ag hR.1), Builtin.len_, run_underlying hT.ok, goInt, this]

theorem opx_max2 {m n : Int} {T1 T2 : TypeId} : OpX P ⟨some d, .call { callee := .builtin .max, args := #[x, y], argTypes := #[T1, T2] }, ty, pos, af, gd⟩ [(x, .i m), (y, .i n)] [] [] [(d, .i (max m n))] [] :=
  opx_val rfl fun cx S O V a w ρ Z hg hR hO => by
    refine ⟨.int .i64 (max m n), ?_, da_mk rfl, by simp [AV.tags, AR.tags, A1.tag]⟩
    have e : (if n > m then n else m) = max m n := by split <;> omega
    simp [execOp, resolve, invoke, builtin, da_raw (hg.ag hR.1), da_raw (hg.ag hR.2.1), Builtin.max_, Builtin.max2, e]
theorem opx_min2 {m n : Int} {T1 T2 : TypeId} : OpX P ⟨some d, .call { callee := .builtin .min, args := #[x, y], argTypes := #[T1, T2] }, ty, pos, af, gd⟩ [(x, .i m), (y, .i n)] [] [] [(d, .i (min m n))] [] :=
  opx_val rfl fun cx S O V a w ρ Z hg hR hO => by
    refine ⟨.int .i64 (min m n), ?_, da_mk rfl, by simp [AV.tags, AR.tags, A1.tag]⟩
    have e : (if n < m then n else m) = min m n := by split <;> omega
    simp [execOp, resolve, invoke, builtin, da_raw (hg.ag hR.1), da_raw (hg.ag hR.2.1), Builtin.min_, Builtin.min2, e]

theorem Good.append {cx : Cx} {S : Nat → AV} {O : Nat → OB} {V : Nat → Prop} {a : Act} {w : World} {ρ : Nat → Value} {Z : Nat → Prop} (hg : Good cx S O V a w ρ Z)
    {u n : Nat} {T e wd bytes : Nat} {zs : List Value} (hT : SlT P T e wd bytes zs) {rows news : List (List CV)} {av : AV} {v2 : Value} (hO1 : O u = .row wd e rows) (h : SlV O av wd news) (hv2 : DA ρ Z w av v2)
    (h63 : rows.length + news.length ≤ maxLen) (hbytes : (rows.length + news.length) * bytes ≤ 140737488355328) (hV : V n) (ty : TypeId) :
    ∃ v' w', (Builtin.append_ #[T, T] ty #[ρ u, v2]).run P w = .ok v' w' ∧ v'.oneCell' = true ∧
      Good cx S (lkf O [(n, .row wd e (rows ++ news)), (u, .gone)]) (fun s => V s ∧ s ≠ n) a w' (fun s => if s = n then v' else ρ s) Z := by
  have ho := hg.obj u
  rw [hO1] at ho
  obtain ⟨hw1, us, hd1, hown⟩ := do_row.1 ho
  obtain ⟨A, c, vs, hy, hc1, hc2, hw2, hd2, hcell⟩ := slv_read hg h hv2
  have hl : (O u).live = true := by rw [hO1]; rfl
  obtain ⟨v', w', hrun, hgr, hown', hblk⟩ := run_append_any (P := P) w (ty := ty) hT hown (A := A) (m := news.length) (c := c) (news := vs) (by rw [hd2.len, flatten_len hw2]) hcell hd2.one h63 hbytes
  have hsame : Same Z w w' := fun g hz => hgr.block g (hg.zlt g hz) (fun e => (hg.out u g hl e.symm).1 hz)
  refine ⟨v', w', by rw [hy]; exact hrun, by rcases hown' with ⟨rfl, _⟩ | ⟨g, off, cap, cur, rfl, _⟩ <;> rfl, ?_⟩
  exact hg.subst (w' := w') (t := u) (u := n) (v := v') (ob := .row wd e (rows ++ news)) hl hV hgr
    (do_row.2 ⟨fun r hr => by rcases List.mem_append.1 hr with h | h; exact hw1 r h; exact hw2 r h, us ++ vs, by
      rw [List.flatten_append]
      exact DL.append (hd1.mono (fun _ h => h) hsame) (hd2.mono (fun _ h => h) hsame), by
      rw [List.length_append]; simpa using hown'⟩) hblk (by simp [OB.tags])

/-- Result of an append onto the call's own slice u: under a new tag n. -/
theorem opx_append {u n : Nat} (RO : List (Nat × OB)) {T e wd bytes : Nat} {zs : List Value} [hT : SlT P T e wd bytes zs] {rows news : List (List CV)} {av : AV}
    (h : ∀ O, OgL O RO → SlV O av wd news) (h63 : rows.length + news.length ≤ maxLen) (hbytes : (rows.length + news.length) * bytes ≤ 140737488355328) :
    OpX P ⟨some d, .call { callee := .builtin .append, args := #[x, y], argTypes := #[T, T] }, ty, pos, af, gd⟩ [(x, .own u), (y, av)] ((u, .row wd e rows) :: RO) [n] [(d, .own n)] [(n, .row wd e (rows ++ news)), (u, .gone)] := by
  intro cx S O V a w hR hO hV hU ⟨ρ, Z, hg⟩ K Q hK
  obtain ⟨hO1, hO2⟩ := hO
  have hx : a.eval x = ρ u := (hg.ag hR.1).1
  obtain ⟨v', w', hrun, h1, hn⟩ := hg.append hT hO1 (h O hO2) (hg.ag hR.2.1) h63 hbytes hV.1 ty
  unfold Oper.wp
  have hexec : (execOp a.eval ⟨some d, .call { callee := .builtin .append, args := #[x, y], argTypes := #[T, T] }, ty, pos, af, gd⟩).run P w = .ok (.value v') w' := by
    simp [execOp, resolve, invoke, builtin, hx, hrun]
  rw [hexec]
  show K (a.put (some d) v') w'
  have hda : DA (fun s => if s = n then v' else ρ s) Z w' (.own n) v' := ⟨by simp, h1⟩
  refine hK _ _ ⟨_, Z, (hn.put (blt_lt hU.1) hda ?_).weak fun s hs => ⟨hs.1, fun e => hs.2 (by simp [e])⟩⟩
  intro s hs hv
  simp [AV.tags, AR.tags, A1.tag] at hs
  exact hv.2 hs

/-- A nil slice that nobody holds yet, as an object of the call's own. -/
theorem Good.ownNil {cx : Cx} {S : Nat → AV} {O : Nat → OB} {V : Nat → Prop} {a : Act} {w : World} {ρ : Nat → Value} {Z : Nat → Prop} (hg : Good cx S O V a w ρ Z) {n wd : Nat} {e : TypeId} (hV : V n) :
    Good cx S (lkf O [(n, .row wd e [])]) (fun s => V s ∧ s ≠ n) a w (fun s => if s = n then .slice none 0 0 else ρ s) Z :=
  hg.new hV ⟨rfl, rfl, rfl, Nat.le_refl _, fun _ _ _ => rfl⟩ (v := .slice none 0 0) (ob := .row wd e []) (do_row.2 ⟨by simp, [], trivial, .inl ⟨by simp, rfl, rfl⟩⟩) (by intro g h; cases h) (by simp [OB.tags])

end
end Go.Proofs.Ytokhfcfnhgianaa
/-
  Literals, make, slices of slices and strings, stores into elements, conversions, equality of structs.
-/
namespace Go.Proofs.Ytokhfcfnhgianaa
open Go.RowKit
set_option linter.unusedVariables false
set_option linter.unusedSimpArgs false

section
variable {P : Program} {R : List (Operand × AV)} {RO : List (Nat × OB)}
variable {d : Nat} {x y z : Operand} {t t' ty : TypeId} {pos : String} {af : Array Edge} {gd : Option (Nat × Bool)}

def litZeros (zs : List Value) (n : Nat) : List Value := (List.range (n * zs.length)).map fun i => zs[i % zs.length]!

theorem run_buildSlice {w : World} {T e wd bytes : Nat} {zs : List Value} (hT : SlT P T e wd bytes zs) {n : Nat} {vs : List (Nat × Value)} {u : List Value} (hn : n * wd ≤ 16777216)
    (hf : Instr.fill (fun i => some (i * wd, wd)) (litZeros zs n).toArray vs = some u.toArray) :
    (Instr.buildSlice T n vs.toArray).run P w = .ok (.slice (some ⟨w.heap.size, 0, none⟩) n n) (w.alloc (.cells u.toArray e)) := by
  obtain ⟨i, z, hu, hi, hz, hs, hb, hzc, hzs⟩ := sl_parts hT
  have hl := hT.len
  subst hs
  have h1 : ¬ n * i.size > 16777216 := by omega
  have hzz : (Array.range (n * i.size)).map (fun k => zs.toArray[k % zs.toArray.size]!) = (litZeros zs n).toArray := by
    simp only [litZeros, List.size_toArray, hl]
    apply Array.ext'
    simp
  by_cases h0 : n * i.size = 0
  · have e0 : (Array.range (n * i.size)).map (fun k => (#[] : Array Value)[k % (#[] : Array Value).size]!) = (litZeros zs n).toArray := by
      simp [litZeros, hl, h0]
    simp only [Instr.buildSlice, Sem.run_bind, run_underlying hu, Result.andThen_ok, sizeOf, typeInfo, run_program, hi, Sem.run_pure]
    rw [Sem.run_ite, if_neg (by simpa using h1)]
    rw [h0] at e0
    simp only [Sem.run_bind, Sem.run_pure, Result.andThen_ok, h0, if_true, Sem.run_ite]
    rw [e0]
    simp only [List.toList_toArray, hf]
    simp [newRow]
  · simp only [Instr.buildSlice, Sem.run_bind, run_underlying hu, Result.andThen_ok, sizeOf, typeInfo, run_program, hi, Sem.run_pure]
    rw [Sem.run_ite, if_neg (by simpa using h1)]
    simp only [Sem.run_bind, Sem.run_pure, Result.andThen_ok, h0, if_false, Sem.run_ite, zeroValue, typeInfo, run_program, hi, hz, hzc]
    rw [hzz]
    simp only [List.toList_toArray, hf]
    simp [newRow]

theorem litZeros_len (zs : List Value) (n : Nat) : (litZeros zs n).length = n * zs.length := by simp [litZeros]
theorem litZeros_one {zs : List Value} (h : zs.all (·.oneCell') = true) (n : Nat) : (litZeros zs n).all (·.oneCell') = true := by
  rw [List.all_eq_true] at h ⊢
  intro v hv
  simp only [litZeros, List.mem_map, List.mem_range] at hv
  obtain ⟨i, hi, rfl⟩ := hv
  have hl : 0 < zs.length := by
    rcases Nat.eq_zero_or_pos zs.length with h0 | h0
    · rw [h0] at hi; simp at hi
    · exact h0
  have : i % zs.length < zs.length := Nat.mod_lt _ hl
  rw [getElem!_pos zs (i % zs.length) this]
  exact h _ (List.getElem_mem _)

theorem opx_lit {u n : Nat} {T e wd bytes : Nat} {zs : List Value} [hT : SlT P T e wd bytes zs] (ps : List (Nat × Operand)) (rs : List AR) (rows : List (List CV)) (hl : ps.length = rs.length)
    (hn : n * wd ≤ 16777216) (hrl : rows.length = n) (hrw : ∀ r ∈ rows, r.length = wd)
    (hf : afill (fun i => some (i * wd, wd)) ((litZeros zs n).map fun v => .c (.raw v)) ((ps.map (·.1)).zip (rs.map (·.cells))) = some (rows.flatten.map A1.c)) :
    OpX P ⟨some d, .buildSlice T n ps.toArray, ty, pos, af, gd⟩ (rdParts ps rs) [] [u] [(d, .own u)] [(u, .row wd e rows)] :=
  opx_new rfl (.inl rfl) fun cx S O V a w ρ Z hg hR hO hV => by
    obtain ⟨us, h1, h2⟩ := fill_of (ρ := ρ) (Z := Z) (w := w) (fun i => some (i * wd, wd)) ((ps.map (·.1)).zip (rs.map (·.cells))) (ps.map fun (i, x) => (i, a.eval x)) _ _ (litZeros zs n) (d1l_raw (litZeros_one hT.one n)) (by simp [hl])
      (fun k hk hk' => by
        simp only [List.length_zip, List.length_map] at hk
        have h3 := rdParts_at hR k (by omega) (by omega)
        have h4 := dr_cells (hg.ag h3)
        simp only [List.getElem_zip, List.getElem_map]
        exact ⟨trivial, h4⟩) hf
    have hdl : DL Z w rows.flatten us := by
      clear h1 hf
      generalize rows.flatten = xs at h2
      induction xs generalizing us with
      | nil => match us, h2 with | [], _ => trivial
      | cons x xs ih => match us, h2 with | u :: us, h2 => exact ⟨h2.1, ih us h2.2⟩
    have hr := run_buildSlice (P := P) (w := w) hT hn h1
    have hgr := World.grownBy_alloc w (.cells us.toArray e) none
    have hsame : Same Z w (w.alloc (.cells us.toArray e)) := fun g hz => hgr.block g (hg.zlt g hz) (by simp)
    have hul : us.length = n * wd := by rw [hdl.len, flatten_len hrw, hrl]
    refine ⟨.slice (some ⟨w.heap.size, 0, none⟩) n n, w.alloc (.cells us.toArray e), ?_, hgr, do_row.2 ⟨hrw, us, hdl.mono (fun _ h => h) hsame, .inr ⟨w.heap.size, 0, n, us.toArray, by simp [hrl], heap_alloc_new w _, by omega, ?_, by simp [hul], by rw [hul, hrl], fun k u hk => by simpa using hk⟩⟩, fun g hb => by cases hb; exact Nat.le_refl _, by simp [OB.tags], rfl, fun h => by cases h⟩
    · have e2 : (Array.map (fun x : Nat × Operand => match x with | (i, x) => (i, a.eval x)) ps.toArray) = (ps.map fun (i, x) => (i, a.eval x)).toArray := by simp
      simp only [execOp]
      rw [e2, Sem.run_bind, hr]; rfl
    · have := hT.pos
      have h5 : n * 1 ≤ n * wd := Nat.mul_le_mul_left n this
      simp only [maxLen]; omega

/-- The operands of a literal of one-cell elements. -/
inductive P1 (S : Nat → AV) : Nat → List (Nat × Operand) → List CV → Prop where
  | nil (k : Nat) : P1 S k [] []
  | cons {k : Nat} {x : Operand} {c : CV} {ps : List (Nat × Operand)} {cs : List CV} : Ag S x (.c c) → P1 S (k + 1) ps cs → P1 S k ((k, x) :: ps) (c :: cs)

theorem P1.ag {S : Nat → AV} {k : Nat} {ps : List (Nat × Operand)} {cs : List CV} (h : P1 S k ps cs) : AgL S (rdParts ps (cs.map fun c => .one (.c c))) := by
  induction h with
  | nil => trivial
  | cons h1 _ ih => exact ⟨h1, ih⟩
theorem P1.len {S : Nat → AV} {k : Nat} {ps : List (Nat × Operand)} {cs : List CV} (h : P1 S k ps cs) : ps.length = cs.length := by
  induction h with
  | nil => rfl
  | cons h1 _ ih => simp [ih]

theorem P1.fill {S : Nat → AV} {k : Nat} {ps : List (Nat × Operand)} {cs : List CV} (h : P1 S k ps cs) : ∀ (pre post : List A1), pre.length = k → post.length = cs.length →
    afill (fun i => some (i * 1, 1)) (pre ++ post) ((ps.map (·.1)).zip ((cs.map fun c => AR.one (.c c)).map (·.cells))) = some (pre ++ cs.map A1.c) := by
  induction h with
  | nil k => intro pre post h1 h2; have : post = [] := List.eq_nil_of_length_eq_zero (by simpa using h2); subst this; rfl
  | @cons k x c ps cs h1 _ ih =>
    intro pre post hp hq
    match post, hq with
    | q :: post, hq =>
      simp only [List.map_cons, List.zip_cons_cons, afill]
      have e0 : AR.cells (.one (.c c)) = [A1.c c] := rfl
      rw [e0]
      have e1 : (Nat.beq [A1.c c].length 1 && Nat.ble (k * 1 + [A1.c c].length) (pre ++ q :: post).length) = true := by
        rw [Bool.and_eq_true]
        exact ⟨rfl, Nat.ble_eq_true_of_le (by simp; omega)⟩
      rw [e1]
      have e2 : splice (pre ++ q :: post) (k * 1) [A1.c c] = (pre ++ [A1.c c]) ++ post := by
        simp only [splice, Nat.mul_one]
        have e3 : (pre ++ q :: post).take k = pre := by rw [← hp]; simp
        have e4 : (pre ++ q :: post).drop (k + [A1.c c].length) = post := by
          rw [← hp]
          show (pre ++ q :: post).drop (pre.length + 1) = post
          rw [← List.drop_drop]; simp
        rw [e3, e4]
      rw [e2]
      show afill _ _ _ = _
      have := ih (pre ++ [A1.c c]) post (by simp [hp]) (by simpa using hq)
      rw [this]
      simp

theorem flatten_ones (cs : List CV) : (cs.map fun c => [c]).flatten = cs := by
  induction cs with
  | nil => rfl
  | cons c cs ih => simp [ih]

theorem opx_lit1 {S : Nat → AV} {u n : Nat} {T e bytes : Nat} {zs : List Value} [hT : SlT P T e 1 bytes zs] {ps : List (Nat × Operand)} {cs : List CV} (h : P1 S 0 ps cs) (hn : cs.length = n) (hb : Nat.ble n 16777216 = true) :
    OpX P ⟨some d, .buildSlice T n ps.toArray, ty, pos, af, gd⟩ (rdParts ps (cs.map fun c => .one (.c c))) [] [u] [(d, .own u)] [(u, .row 1 e (cs.map fun c => [c]))] :=
  opx_lit ps (cs.map fun c => .one (.c c)) (cs.map fun c => [c]) (by simp [h.len]) (by simpa using Nat.le_of_ble_eq_true hb) (by simpa using hn) (by simp) (by
    rw [flatten_ones]
    have := h.fill [] ((litZeros zs n).map fun v => .c (.raw v)) rfl (by rw [List.length_map, litZeros_len, hT.len, hn]; omega)
    simpa using this)

/-- '[]T{}' -/
theorem opx_lit0 {u : Nat} {T e wd bytes : Nat} {zs : List Value} [hT : SlT P T e wd bytes zs] :
    OpX P ⟨some d, .buildSlice T 0 #[], ty, pos, af, gd⟩ [] [] [u] [(d, .own u)] [(u, .row wd e [])] :=
  opx_lit [] [] [] rfl (by simp) rfl (by simp) (by simp [afill, litZeros])

/-- one struct: '[]T{x}', what 'append(s, x)' appends -/
theorem opx_lits {u : Nat} {T e wd bytes : Nat} {zs : List Value} [hT : SlT P T e wd bytes zs] {row : List CV} {xs : List A1} (hx : xs = row.map A1.c) (hl : row.length = wd) (hw : wd ≤ 16777216) :
    OpX P ⟨some d, .buildSlice T 1 #[(0, x)], ty, pos, af, gd⟩ [(x, .agg xs)] [] [u] [(d, .own u)] [(u, .row wd e [row])] :=
  opx_lit [(0, x)] [.agg xs] [row] rfl (by simpa using hw) rfl (by simpa using hl) (by
    subst hx
    have hz : ((litZeros zs 1).map fun v => A1.c (.raw v)).length = wd := by rw [List.length_map, litZeros_len, hT.len]; omega
    simp only [List.map_cons, List.map_nil, List.zip_cons_cons, List.zip_nil_left, afill, AR.cells]
    have e1 : (Nat.beq (row.map A1.c).length wd && Nat.ble (0 * wd + (row.map A1.c).length) ((litZeros zs 1).map fun v => A1.c (.raw v)).length) = true := by
      rw [Bool.and_eq_true, hz, List.length_map, hl]
      exact ⟨Nat.beq_refl _, Nat.ble_eq_true_of_le (by omega)⟩
    rw [e1]
    simp only [cond_true, Option.some.injEq, splice, Nat.zero_mul, List.take_zero, List.nil_append, Nat.zero_add]
    rw [List.drop_of_length_le (by rw [hz, List.length_map, hl]; exact Nat.le_refl _)]
    simp)
theorem opx_lits2 {u : Nat} {T e bytes : Nat} {zs : List Value} [hT : SlT P T e 2 bytes zs] {a b : CV} :
    OpX P ⟨some d, .buildSlice T 1 #[(0, x)], ty, pos, af, gd⟩ [(x, .agg [.c a, .c b])] [] [u] [(d, .own u)] [(u, .row 2 e [[a, b]])] := opx_lits rfl rfl (by omega)
theorem litZeros_rep (zs : List Value) (n : Nat) : litZeros zs n = (List.replicate n zs).flatten := by
  induction n with
  | zero => simp [litZeros]
  | succ n ih =>
    rw [List.replicate_succ', List.flatten_append, ← ih]
    simp only [litZeros, List.flatten_cons, List.flatten_nil, List.append_nil]
    have e : (n + 1) * zs.length = n * zs.length + zs.length := by rw [Nat.add_mul]; omega
    rw [e, List.range_add, List.map_append]
    congr 1
    apply List.ext_getElem?
    intro k
    simp only [List.map_map, List.getElem?_map, List.getElem?_range]
    by_cases hk : k < zs.length
    · rw [List.getElem?_range hk]
      simp only [Option.map_some, Function.comp]
      have e2 : (n * zs.length + k) % zs.length = k := by
        rw [Nat.mul_comm, Nat.mul_add_mod]; exact Nat.mod_eq_of_lt hk
      rw [e2, getElem!_pos zs k hk, List.getElem?_eq_getElem hk]
    · rw [List.getElem?_eq_none (by simpa using hk), List.getElem?_eq_none (by omega)]
      rfl

theorem dl_raw {Z : Nat → Prop} {w : World} : ∀ {zs : List Value}, zs.all (·.oneCell') = true → DL Z w (zs.map .raw) zs
  | [], _ => trivial
  | z :: zs, h => by
    simp only [List.all_cons, Bool.and_eq_true] at h
    exact ⟨DC.raw z h.1, dl_raw h.2⟩

/-- 'make([]T, l, c)' -/
theorem opx_make {u : Nat} {T e wd bytes : Nat} {zs : List Value} [hT : SlT P T e wd bytes zs] {l c : Nat} {li ci : Int} (hli : li = (l : Int)) (hci : ci = (c : Int)) (hlc : l ≤ c) (hc : c ≤ maxLen) (hb : bytes * c ≤ 281474976710656) :
    OpX P ⟨some d, .makeSlice T x y, ty, pos, af, gd⟩ [(x, .i li), (y, .i ci)] [] [u] [(d, .own u)] [(u, .row wd e (List.replicate l (zs.map .raw)))] :=
  opx_new rfl (.inl rfl) fun cx S O V a w ρ Z hg hR hO hV => by
    subst hli hci
    obtain ⟨i, z, hu, hi, hz, hs, hbb, hzc, hzs⟩ := sl_parts hT
    have hl := hT.len
    subst hs
    have hb' : (bytes : Int) * (c : Int) ≤ 281474976710656 := by
      have h : ((bytes * c : Nat) : Int) ≤ 281474976710656 := by omega
      rwa [Int.natCast_mul] at h
    have hr := run_make (P := P) w T e i z hu hi hz .i64 .i64 (l : Int) (c : Int) (by omega) (by omega) (by rw [hbb]; exact hb') (by simp only [maxLen] at hc; omega)
    simp only [Int.toNat_natCast] at hr
    have hmade : madeCells z.cells (c * i.size) = (litZeros zs c).toArray := by
      simp only [madeCells, litZeros, hzc, List.size_toArray, hl]
      apply Array.ext'
      simp
    rw [hmade] at hr
    have hgr := World.grownBy_alloc w (.cells (litZeros zs c).toArray e) none
    refine ⟨.slice (some ⟨w.heap.size, 0, none⟩) l c, w.alloc (.cells (litZeros zs c).toArray e), ?_, hgr, do_row.2 ⟨by intro r hr; rw [List.mem_replicate] at hr; rw [hr.2]; simpa using hl, litZeros zs l, ?_, .inr ⟨w.heap.size, 0, c, (litZeros zs c).toArray, by simp, heap_alloc_new w _, by simpa using hlc, hc, by simp [litZeros_len, hl], by simp [litZeros_len, hl], ?_⟩⟩, fun g hb => by cases hb; exact Nat.le_refl _, by simp [OB.tags], rfl, fun h => by cases h⟩
    · simp only [execOp, da_raw (hg.ag hR.1), da_raw (hg.ag hR.2.1)]
      rw [Sem.run_bind, hr]; rfl
    · have e : (List.replicate l (zs.map CV.raw)).flatten = (litZeros zs l).map .raw := by
        rw [litZeros_rep, List.map_flatten, List.map_replicate]
      rw [e]
      exact dl_raw (litZeros_one hT.one l)
    · intro k u hk
      have hlt : k < (litZeros zs l).length := (List.getElem?_eq_some_iff.1 hk).1
      rw [litZeros_len] at hlt
      have e : litZeros zs c = litZeros zs l ++ litZeros zs (c - l) := by
        rw [litZeros_rep, litZeros_rep, litZeros_rep, ← List.flatten_append, List.replicate_append_replicate]
        congr 2; omega
      simp only [Nat.zero_add, List.getElem?_toArray]
      rw [e, List.getElem?_append_left (by rw [litZeros_len]; exact hlt)]
      exact hk

theorem run_slice {w : World} {T e wd bytes : Nat} {zs : List Value} (hT : SlT P T e wd bytes zs) {A : Option Addr} {n c l h : Nat} {lo hi : Option Value}
    (hlo : lo = some (.int .i64 (l : Int)) ∨ lo = none ∧ l = 0) (hhi : hi = some (.int .i64 (h : Int)) ∨ hi = none ∧ h = n) (hlh : l ≤ h) (hhc : h ≤ c) :
    (Instr.sliceAt T (.slice A n c) lo hi none).run P w = .ok (.slice (if c = l then A else A.map (·.add (l * wd))) (h - l) (c - l)) w := by
  obtain ⟨i, z, hu, hi', hz, hs, hbb, hzc, hzs⟩ := sl_parts hT
  subst hs
  have e1 : (h : Int) ≤ (c : Int) := by omega
  have e2 : (l : Int) ≤ (h : Int) := by omega
  rcases hlo with rfl | ⟨rfl, rfl⟩ <;> rcases hhi with rfl | ⟨rfl, rfl⟩ <;>
    simp [Instr.sliceAt, Instr.slice, run_underlying hu, Instr.sliceBounds, Instr.sliceBound, asIntOf, sizeOf, typeInfo, hi', hhc, hlh, e1, e2]

def OptAg (S : Nat → AV) : Option Operand → Nat → Nat → Prop
  | some x, k, _ => Ag S x (.i k)
  | none, k, dflt => k = dflt

theorem slice_rows {α : Type} (rows : List α) (l h : Nat) (hlh : l ≤ h) (hh : h ≤ rows.length) : ((rows.take h).drop l).length = h - l := by simp; omega

theorem flat_take {wd : Nat} (k : Nat) : ∀ {rows : List (List CV)}, (∀ r ∈ rows, r.length = wd) → (rows.take k).flatten = rows.flatten.take (k * wd) := by
  induction k with
  | zero => intro rows _; simp
  | succ k ih =>
    intro rows h
    cases rows with
    | nil => simp
    | cons r rows =>
      have hr := h r (.head _)
      have e : (k + 1) * wd = r.length + k * wd := by rw [hr, Nat.add_mul]; omega
      rw [List.take_succ_cons, List.flatten_cons, List.flatten_cons, ih (fun r hr => h r (.tail _ hr)), e, List.take_length_add_append]
theorem flat_drop {wd : Nat} (k : Nat) : ∀ {rows : List (List CV)}, (∀ r ∈ rows, r.length = wd) → (rows.drop k).flatten = rows.flatten.drop (k * wd) := by
  induction k with
  | zero => intro rows _; simp
  | succ k ih =>
    intro rows h
    cases rows with
    | nil => simp
    | cons r rows =>
      have hr := h r (.head _)
      have e : (k + 1) * wd = r.length + k * wd := by rw [hr, Nat.add_mul]; omega
      rw [List.drop_succ_cons, List.flatten_cons, ih (fun r hr => h r (.tail _ hr)), e, List.drop_length_add_append]

theorem dc_slice {Z : Nat → Prop} {w : World} {wd : Nat} {rows : List (List CV)} {A : Option Addr} {n c l h : Nat} (hd : DC Z w (.sl wd rows) (.slice A n c)) (hlh : l ≤ h) (hh : h ≤ rows.length) :
    h ≤ c ∧ DC Z w (.sl wd ((rows.take h).drop l)) (.slice (if c = l then A else A.map (·.add (l * wd))) (h - l) (c - l)) := by
  cases hd with
  | nil _ _ _ hm =>
    have h0 : h = 0 := by simpa using hh
    subst h0
    have l0 : l = 0 := by omega
    subst l0
    simp only [List.take_nil, List.drop_nil, Nat.sub_zero]
    exact ⟨Nat.zero_le _, .nil wd _ c hm⟩
  | sl _ _ b off n cap us hn hw hz hc hm hl hcell hd =>
    subst hn
    refine ⟨by omega, ?_⟩
    by_cases he : h = l
    · subst he
      have : (rows.take h).drop h = [] := by rw [List.drop_eq_nil_iff]; simp; omega
      rw [this, Nat.sub_self]
      exact .nil wd _ _ (by omega)
    · rw [if_neg (by omega)]
      simp only [Option.map_some, addr_add]
      have hDL : DL Z w rows.flatten us := DL.mk hl hd
      have e : ((rows.take h).drop l).flatten = (rows.flatten.take (h * wd)).drop (l * wd) := by
        rw [flat_drop l (fun r hr => hw r (List.mem_of_mem_take hr)), flat_take h hw]
      have hDL2 := (hDL.take (h * wd)).drop (l * wd)
      rw [← e] at hDL2
      refine .sl wd _ b (off + l * wd) (h - l) (c - l) ((us.take (h * wd)).drop (l * wd)) (slice_rows rows l h hlh hh) (fun r hr => hw r (List.mem_of_mem_take (List.mem_of_mem_drop hr))) hz (by omega) (by omega) hDL2.len ?_ (fun k hk hk' => hDL2.at k hk hk')
      intro k u hk
      rw [List.getElem?_drop, List.getElem?_take] at hk
      split at hk
      · rw [Nat.add_assoc]; exact hcell _ u hk
      · cases hk

theorem optag_val {cx : Cx} {S : Nat → AV} {O : Nat → OB} {V : Nat → Prop} {a : Act} {w : World} {ρ : Nat → Value} {Z : Nat → Prop} (hg : Good cx S O V a w ρ Z) {o : Option Operand} {k dflt : Nat}
    (h : OptAg S o k dflt) : o.map a.eval = some (.int .i64 (k : Int)) ∨ o.map a.eval = none ∧ k = dflt := by
  cases o with
  | none => exact .inr ⟨rfl, h⟩
  | some x => exact .inl (by simp only [Option.map_some]; rw [da_raw (hg.ag h)])

def rdOpt : Option Operand → Nat → List (Operand × AV)
  | some x, k => [(x, .i k)]
  | none, _ => []

theorem AgL.split {S : Nat → AV} : ∀ {A B : List (Operand × AV)}, AgL S (A ++ B) → AgL S A ∧ AgL S B
  | [], _, h => ⟨trivial, h⟩
  | _ :: A, B, h => ⟨⟨h.1, (AgL.split (A := A) h.2).1⟩, (AgL.split (A := A) h.2).2⟩

theorem optag_of {S : Nat → AV} {o : Option Operand} {k dflt : Nat} (h : AgL S (rdOpt o k)) (hk : o = none → k = dflt) : OptAg S o k dflt := by
  cases o with
  | none => exact hk rfl
  | some x => exact h.1

/-- a slice in the zone, sliced -/
theorem opx_slice_sl {T e wd bytes : Nat} {zs : List Value} [hT : SlT P T e wd bytes zs] {rows : List (List CV)} {lo hi : Option Operand} {l h : Nat} (hlo : lo = none → l = 0) (hhi : hi = none → h = rows.length) (hlh : l ≤ h) (hh : h ≤ rows.length) :
    OpX P ⟨some d, .slice T x lo hi none, ty, pos, af, gd⟩ ((x, .sl wd rows) :: (rdOpt lo l ++ rdOpt hi h)) [] [] [(d, .sl wd ((rows.take h).drop l))] [] :=
  opx_val rfl fun cx S O V a w ρ Z hg hR hO => by
    obtain ⟨h1, h2⟩ := AgL.split hR.2
    have hv : DC Z w (.sl wd rows) (a.eval x) := hg.ag hR.1
    obtain ⟨A, c, us, hx, _⟩ := slv_read hg (av := .sl wd rows) ⟨rfl, rfl⟩ hv
    rw [hx] at hv
    obtain ⟨hhc, hd⟩ := dc_slice hv hlh hh
    have hr := run_slice (P := P) (w := w) hT (A := A) (n := rows.length) (c := c) (optag_val hg (optag_of h1 hlo)) (optag_val hg (optag_of h2 hhi)) hlh hhc
    refine ⟨_, by simp only [execOp, hx]; rw [Sem.run_bind]; erw [hr]; rfl, hd, by simp [AV.tags, AR.tags, A1.tag]⟩

end
end Go.Proofs.Ytokhfcfnhgianaa
/-
  Own slices cut, stores into elements, strings, conversions, equality.
-/
namespace Go.Proofs.Ytokhfcfnhgianaa
open Go.RowKit
set_option linter.unusedVariables false
set_option linter.unusedSimpArgs false

section
variable {P : Program} {R : List (Operand × AV)} {RO : List (Nat × OB)}
variable {d : Nat} {x y z : Operand} {t t' ty : TypeId} {pos : String} {af : Array Edge} {gd : Option (Nat × Bool)}

theorem flatten_set {wd : Nat} : ∀ {rows : List (List CV)} {i k : Nat} {row : List CV} {c : CV}, (∀ r ∈ rows, r.length = wd) → rows[i]? = some row → k < wd →
    (rows.set i (row.set k c)).flatten = rows.flatten.set (i * wd + k) c
  | r :: rows, 0, k, row, c, hw, hi, hk => by
    cases hi
    have := hw r (.head _)
    rw [List.set_cons_zero, List.flatten_cons, List.flatten_cons, Nat.zero_mul, Nat.zero_add, List.set_append_left _ _ (by omega)]
  | r :: rows, i + 1, k, row, c, hw, hi, hk => by
    have hr := hw r (.head _)
    have e : (i + 1) * wd + k = r.length + (i * wd + k) := by rw [hr, Nat.add_mul]; omega
    rw [List.set_cons_succ, List.flatten_cons, List.flatten_cons, e, List.set_append_right _ _ (by omega), Nat.add_sub_cancel_left,
      flatten_set (fun r hr => hw r (.tail _ hr)) (by simpa using hi) hk]
  | [], i, k, row, c, _, hi, _ => by simp at hi

theorem flatten_splice {wd : Nat} : ∀ {rows : List (List CV)} {i : Nat} {row : List CV}, (∀ r ∈ rows, r.length = wd) → i < rows.length → row.length = wd →
    (rows.set i row).flatten = splice rows.flatten (i * wd) row
  | r :: rows, 0, row, hw, _, hl => by
    have hr := hw r (.head _)
    rw [List.set_cons_zero, List.flatten_cons, List.flatten_cons, Nat.zero_mul]
    simp only [splice, List.take_zero, List.nil_append, Nat.zero_add]
    rw [hl, ← hr, List.drop_left]
  | r :: rows, i + 1, row, hw, hi, hl => by
    have hr := hw r (.head _)
    have e : (i + 1) * wd = r.length + i * wd := by rw [hr, Nat.add_mul]; omega
    rw [List.set_cons_succ, List.flatten_cons, List.flatten_cons, flatten_splice (fun r hr => hw r (.tail _ hr)) (by simpa using hi) hl, e]
    simp only [splice]
    rw [List.take_length_add_append, Nat.add_assoc, List.drop_length_add_append]
    simp [List.append_assoc]
  | [], i, row, _, hi, _ => by simp at hi

theorem dl_splice {Z : Nat → Prop} {w : World} {xs ys : List CV} {us vs : List Value} (h : DL Z w xs us) (o : Nat) (h2 : DL Z w ys vs) : DL Z w (splice xs o ys) (splice us o vs) := by
  unfold splice
  rw [h2.len]
  exact DL.append (DL.append (h.take o) h2) (h.drop _)

theorem set_splice {α : Type} (xs : List α) (o : Nat) (c : α) (h : o < xs.length) : xs.set o c = splice xs o [c] := by
  unfold splice
  rw [List.set_eq_take_append_cons_drop, if_pos h]
  simp

/-- Cells are stored into element i. -/
theorem opx_st_el {u wd i k : Nat} {e : TypeId} {rows rows' : List (List CV)} {xs : List CV} {av : AV}
    (H : ∀ (ρ : Nat → Value) (Z : Nat → Prop) (w : World) (v : Value), DA ρ Z w av v → (sizeOf t).run P w = .ok xs.length w ∧ ∃ us, v.cells = us.toArray ∧ DL Z w xs us)
    (hfit : (∀ r ∈ rows, r.length = wd) → i * wd + k + xs.length ≤ rows.flatten.length) (hrl : rows'.length = rows.length)
    (hrw : (∀ r ∈ rows, r.length = wd) → (∀ r ∈ rows', r.length = wd) ∧ rows'.flatten = splice rows.flatten (i * wd + k) xs) :
    OpX P ⟨none, .store t x y, ty, pos, af, gd⟩ [(x, .el u wd i k), (y, av)] [(u, .row wd e rows)] [] [] [(u, .row wd e rows')] :=
  opx_set rfl rfl fun cx S O V a w ρ Z hg hR hO => by
    obtain ⟨g, o, h1, h2⟩ := hg.ag hR.1
    have ho := hg.obj u
    rw [hO.1] at ho
    obtain ⟨hw, us, hd, hown⟩ := do_row.1 ho
    obtain ⟨hs, us', h6, h7⟩ := H ρ Z w _ (hg.ag hR.2.1)
    obtain ⟨hw', hfl⟩ := hrw hw
    have hfit' := hfit hw
    have hl : us'.length = xs.length := h7.len
    have hv : (a.eval y).cells.size = xs.length := by rw [h6]; simpa using hl
    rcases hown with ⟨h3, _⟩ | ⟨g', off, cap, cur, h3, h4, h5, h8, h9, h10, h11⟩
    · rw [h3] at h1; cases h1
    · rw [h3] at h1
      cases h1
      have hfl2 := flatten_len hw
      have hcs : o + rows.length * wd ≤ cur.size := by
        have : rows.length * wd ≤ cap * wd := Nat.mul_le_mul_right _ h5
        omega
      have hr := run_storeAt (P := P) (t := t) (v := a.eval y) (o := o + (i * wd + k)) h4 (by rw [hv]; exact hs) (by rw [h6]; simpa using h7.one) (by rw [hv]; omega)
      refine ⟨_, by simp only [execOp, h2]; rw [Sem.run_bind, hr]; rfl, by rw [hO.1]; rfl, by rw [h3]; exact grownBy_setRow _ _ _, ?_, by simp [OB.tags]⟩
      have hsame : Same Z w (w.setRow g ((cur.toList.take (o + (i * wd + k)) ++ (a.eval y).cells.toList ++ cur.toList.drop (o + (i * wd + k) + (a.eval y).cells.size)).toArray)) := fun k' hk =>
        setRow_other _ _ _ _ (fun e => (hg.out u g (by rw [hO.1]; rfl) (by rw [h3]; rfl)).1 (e ▸ hk))
      refine do_row.2 ⟨hw', splice us (i * wd + k) us', hfl ▸ (dl_splice hd _ h7).mono (fun _ h => h) hsame, .inr ⟨g, o, cap, _, by rw [hrl]; exact h3, setRow_heap w g _ _ e (0, 0) h4, by rw [hrl]; exact h5, h8, ?_, ?_, ?_⟩⟩
      · rw [hv]
        simp only [List.size_toArray, List.length_append, List.length_take, List.length_drop, Array.length_toList, h6, hl]
        omega
      · simp only [splice, List.length_append, List.length_take, List.length_drop, hl, hrl]
        omega
      · intro j v hj
        rw [hv, h6]
        simp only [List.getElem?_toArray]
        simp only [splice, hl] at hj
        have e1 : min (i * wd + k) us.length = i * wd + k := by omega
        have e2 : min (o + (i * wd + k)) cur.toList.length = o + (i * wd + k) := by simp; omega
        by_cases hj1 : j < i * wd + k
        · rw [List.append_assoc, List.getElem?_append_left (by rw [List.length_take, e1]; exact hj1), List.getElem?_take, if_pos hj1] at hj
          rw [List.append_assoc, List.getElem?_append_left (by rw [List.length_take, e2]; omega), List.getElem?_take, if_pos (by omega)]
          simpa using h11 j v hj
        · rw [List.append_assoc, List.getElem?_append_right (by rw [List.length_take, e1]; omega), List.length_take, e1] at hj
          rw [List.append_assoc, List.getElem?_append_right (by rw [List.length_take, e2]; omega), List.length_take, e2]
          by_cases hj2 : j - (i * wd + k) < us'.length
          · rw [List.getElem?_append_left hj2] at hj
            rw [List.getElem?_append_left (by omega), ← hj]
            congr 1; omega
          · rw [List.getElem?_append_right (by omega), List.getElem?_drop] at hj
            rw [List.getElem?_append_right (by omega), List.getElem?_drop]
            have := h11 _ v hj
            simp only [Array.getElem?_toList]
            rw [← this]
            congr 1; omega

theorem opx_st1_el {u wd i k : Nat} {e : TypeId} {rows : List (List CV)} {row : List CV} {c : CV} [h : TyOne P t] (hi : rows[i]? = some row) (hk : k < wd) :
    OpX P ⟨none, .store t x y, ty, pos, af, gd⟩ [(x, .el u wd i k), (y, .c c)] [(u, .row wd e rows)] [] [] [(u, .row wd e (rows.set i (row.set k c)))] :=
  opx_st_el (xs := [c]) (fun ρ Z w v hv => ⟨run_size_one h, [v], cells_one (DC.one hv), ⟨hv, trivial⟩⟩) (fun hw => by
      have hlt : i < rows.length := (List.getElem?_eq_some_iff.1 hi).1
      rw [flatten_len hw]
      have : (i + 1) * wd ≤ rows.length * wd := Nat.mul_le_mul_right _ hlt
      rw [Nat.add_mul] at this
      simp; omega) (by simp) (fun hw => ⟨fun r hr => by
      rcases List.mem_or_eq_of_mem_set hr with h | rfl
      · exact hw r h
      · rw [List.length_set]; exact hw row (List.mem_of_getElem? hi), by
      have hlt : i < rows.length := (List.getElem?_eq_some_iff.1 hi).1
      rw [flatten_set hw hi hk, set_splice]
      rw [flatten_len hw]
      have : (i + 1) * wd ≤ rows.length * wd := Nat.mul_le_mul_right _ hlt
      rw [Nat.add_mul] at this
      omega⟩)

theorem dl_of_c {ρ : Nat → Value} {Z : Nat → Prop} {w : World} : ∀ {xs : List CV} {us : List Value}, D1L ρ Z w (xs.map .c) us → DL Z w xs us
  | [], [], _ => trivial
  | _ :: _, _ :: _, h => ⟨h.1, dl_of_c h.2⟩
  | [], _ :: _, h => h.elim
  | _ :: _, [], h => h.elim

theorem opx_sts_el {u wd i : Nat} {e : TypeId} {rows : List (List CV)} {row : List CV} {xs : List A1} [h : TyStr P t wd] (hx : xs = row.map .c) (hl : row.length = wd) (hi : i < rows.length) :
    OpX P ⟨none, .store t x y, ty, pos, af, gd⟩ [(x, .el u wd i 0), (y, .agg xs)] [(u, .row wd e rows)] [] [] [(u, .row wd e (rows.set i row))] :=
  opx_st_el (xs := row) (fun ρ Z w v hv => by
      subst hx
      obtain ⟨us, rfl, h2⟩ := hv
      exact ⟨by rw [hl]; exact (run_isAgg_str h).2, us, rfl, dl_of_c h2⟩) (fun hw => by
      rw [flatten_len hw]
      have : (i + 1) * wd ≤ rows.length * wd := Nat.mul_le_mul_right _ hi
      rw [Nat.add_mul] at this
      omega) (by simp) (fun hw => ⟨fun r hr => by
      rcases List.mem_or_eq_of_mem_set hr with h | rfl
      · exact hw r h
      · exact hl, by rw [flatten_splice hw hi hl]; rfl⟩)

theorem opx_sidx {T : TypeId} [hT : StrT P T] {s : List UInt8} {b : UInt8} {i : Int} {k : Nat} (hi : i = (k : Int)) (hk : s[k]? = some b) :
    OpX P ⟨some d, .index T x y, ty, pos, af, gd⟩ [(x, .str s), (y, .i i)] [] [] [(d, .raw (.int .u8 b.toNat))] [] :=
  opx_val rfl fun cx S O V a w ρ Z hg hR hO => by
    subst hi
    have h1 := da_raw (hg.ag hR.1)
    have h2 := da_raw (hg.ag hR.2.1)
    refine ⟨_, ?_, da_mk rfl, by simp [AV.tags, AR.tags, A1.tag]⟩
    have hlt : k < s.length := (List.getElem?_eq_some_iff.1 hk).1
    have hb : ((⟨s.toArray⟩ : ByteArray)[k]? : Option UInt8) = some b := by
      have hsz : k < (⟨s.toArray⟩ : ByteArray).size := by simpa [ByteArray.size] using hlt
      rw [getElem?_pos (⟨s.toArray⟩ : ByteArray) k hsz]
      have := (List.getElem?_eq_some_iff.1 hk).2
      simpa [ByteArray.getElem_eq_getElem_data] using this
    simp [execOp, h1, h2, Instr.index, asIntOf, run_underlying hT.ok, hb]

class CvT (P : Program) (src dst : TypeId) (k : outParam IntKind) : Prop where
  hs : (P.underlying src).isSome = true
  hd : P.underlying dst = some (.int k)
theorem opx_conv {src dst : TypeId} {k q : IntKind} [h : CvT P src dst k] {n m : Int} (hm : k.wrap n = m) :
    OpX P ⟨some d, .convert src dst x, ty, pos, af, gd⟩ [(x, .raw (.int q n))] [] [] [(d, .raw (.int k m))] [] :=
  opx_val rfl fun cx S O V a w ρ Z hg hR hO => by
    refine ⟨.int k m, ?_, da_mk rfl, by simp [AV.tags, AR.tags, A1.tag]⟩
    have h1 := da_raw (hg.ag hR.1)
    have hr : (convert src dst (.int q n)).run P w = .ok (.int k m) w := by
      have hs := h.hs
      cases hu : P.underlying src with
      | none => rw [hu] at hs; cases hs
      | some de =>
        simp only [convert, Sem.run_bind, run_underlying hu, run_underlying h.hd, Result.andThen_ok]
        simp [Conv.intToInt, hm]
    simp only [execOp, h1]
    rw [Sem.run_bind, hr]; rfl
class BoolT (P : Program) (T : TypeId) : Prop where
  ok : P.underlying T = some .bool
theorem opx_bneq {T : TypeId} [hT : BoolT P T] {m n : Bool} : OpX P ⟨some d, .binOp .neq T x y t', ty, pos, af, gd⟩ [(x, .b m), (y, .b n)] [] [] [(d, .b (!(m == n)))] [] :=
  opx_val rfl fun cx S O V a w ρ Z hg hR hO => by
    refine ⟨.bool (!(m == n)), ?_, da_mk rfl, by simp [AV.tags, AR.tags, A1.tag]⟩
    simp [execOp, da_raw (hg.ag hR.1), da_raw (hg.ag hR.2.1), eqGuard, binOp, Op.equal, Op.maxDepth, run_equalIn_bool' w 9999 T m n hT.ok]

section cuts
theorem opx_cutH_sl {d : Nat} {T e wd bytes : Nat} {zs : List Value} [hT : SlT P T e wd bytes zs] {rows rows' : List (List CV)} {x y : Operand} {z : Int} {h : Nat} {ty : TypeId} {pos : String} {af : Array Edge} {gd : Option (Nat × Bool)} (he : (rows.take h).drop 0 = rows') (hh : z = (h : Int)) (hb : h ≤ rows.length) :
    OpX P ⟨some d, .slice T x none (some y) none, ty, pos, af, gd⟩ [(x, .sl wd rows), (y, .i z)] [] [] [(d, .sl wd rows')] [] := by
  subst hh; subst he
  exact opx_slice_sl (l := 0) (fun _ => rfl) (fun h => by cases h) (Nat.zero_le _) hb
end cuts
end
end Go.Proofs.Ytokhfcfnhgianaa

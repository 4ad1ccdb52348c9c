/-
  Literals, make, slices of slices and strings, stores into elements, conversions, equality of structs.
-/
import Derived.Test.YtllgddednlfhfaaDoorEng6
namespace Go.Proofs.YtllgddednlfhfaaDoor
open Go.RowKit
set_option linter.unusedVariables false
set_option linter.unusedSimpArgs false

section
variable {P : Program} {R : List (Operand × AV)} {RO : List (Nat × OB)}
variable {d : Nat} {x y z : Operand} {t t' ty : TypeId} {pos : String} {af : Array Edge} {gd : Option (Nat × Bool)}

/-! ### slice literals -/
def litZeros (zs : List Value) (n : Nat) : List Value := (List.range (n * zs.length)).map fun i => zs[i % zs.length]!

theorem run_buildSlice {w : World} {T e wd bytes : Nat} {zs : List Value} (hT : SlT P T e wd bytes zs) {n : Nat} {vs : List (Nat × Value)} {u : List Value} (hn : n * wd ≤ 16777216)
    (hf : Instr.fill (fun i => some (i * wd, wd)) (litZeros zs n).toArray vs = some u.toArray) :
    (Instr.buildSlice T n vs.toArray).run P w = .ok (.slice (some ⟨w.heap.size, 0, none⟩) n n) (w.alloc (.cells u.toArray e)) := by
  obtain ⟨i, z, hu, hi, hz, hs, hb, hzc, hzs⟩ := sl_parts hT
  have hl := hT.len
  subst hs
  have h1 : ¬ n * i.size > 16777216 := by omega
  have hzz : (Array.range (n * i.size)).map (fun k => zs.toArray[k % zs.toArray.size]!) = (litZeros zs n).toArray := by
    simp only [litZeros, List.size_toArray, hl]
    apply Array.ext'
    simp
  by_cases h0 : n * i.size = 0
  · have e0 : (Array.range (n * i.size)).map (fun k => (#[] : Array Value)[k % (#[] : Array Value).size]!) = (litZeros zs n).toArray := by
      simp [litZeros, hl, h0]
    simp only [Instr.buildSlice, Sem.run_bind, run_underlying hu, Result.andThen_ok, sizeOf, typeInfo, run_program, hi, Sem.run_pure]
    rw [Sem.run_ite, if_neg (by simpa using h1)]
    rw [h0] at e0
    simp only [Sem.run_bind, Sem.run_pure, Result.andThen_ok, h0, if_true, Sem.run_ite]
    rw [e0]
    simp only [List.toList_toArray, hf]
    simp [newRow]
  · simp only [Instr.buildSlice, Sem.run_bind, run_underlying hu, Result.andThen_ok, sizeOf, typeInfo, run_program, hi, Sem.run_pure]
    rw [Sem.run_ite, if_neg (by simpa using h1)]
    simp only [Sem.run_bind, Sem.run_pure, Result.andThen_ok, h0, if_false, Sem.run_ite, zeroValue, typeInfo, run_program, hi, hz, hzc]
    rw [hzz]
    simp only [List.toList_toArray, hf]
    simp [newRow]

theorem litZeros_len (zs : List Value) (n : Nat) : (litZeros zs n).length = n * zs.length := by simp [litZeros]
theorem litZeros_one {zs : List Value} (h : zs.all (·.oneCell') = true) (n : Nat) : (litZeros zs n).all (·.oneCell') = true := by
  rw [List.all_eq_true] at h ⊢
  intro v hv
  simp only [litZeros, List.mem_map, List.mem_range] at hv
  obtain ⟨i, hi, rfl⟩ := hv
  have hl : 0 < zs.length := by
    rcases Nat.eq_zero_or_pos zs.length with h0 | h0
    · rw [h0] at hi; simp at hi
    · exact h0
  have : i % zs.length < zs.length := Nat.mod_lt _ hl
  rw [getElem!_pos zs (i % zs.length) this]
  exact h _ (List.getElem_mem _)

theorem opx_lit {u n : Nat} {T e wd bytes : Nat} {zs : List Value} [hT : SlT P T e wd bytes zs] (ps : List (Nat × Operand)) (rs : List AR) (rows : List (List CV)) (hl : ps.length = rs.length)
    (hn : n * wd ≤ 16777216) (hrl : rows.length = n) (hrw : ∀ r ∈ rows, r.length = wd)
    (hf : afill (fun i => some (i * wd, wd)) ((litZeros zs n).map fun v => .c (.raw v)) ((ps.map (·.1)).zip (rs.map (·.cells))) = some (rows.flatten.map A1.c)) :
    OpX P ⟨some d, .buildSlice T n ps.toArray, ty, pos, af, gd⟩ (rdParts ps rs) [] [u] [(d, .own u)] [(u, .row wd e rows)] :=
  opx_new rfl (.inl rfl) fun cx S O V a w ρ Z hg hR hO hV => by
    obtain ⟨us, h1, h2⟩ := fill_of (ρ := ρ) (Z := Z) (w := w) (fun i => some (i * wd, wd)) ((ps.map (·.1)).zip (rs.map (·.cells))) (ps.map fun (i, x) => (i, a.eval x)) _ _ (litZeros zs n) (d1l_raw (litZeros_one hT.one n)) (by simp [hl])
      (fun k hk hk' => by
        simp only [List.length_zip, List.length_map] at hk
        have h3 := rdParts_at hR k (by omega) (by omega)
        have h4 := dr_cells (hg.ag h3)
        simp only [List.getElem_zip, List.getElem_map]
        exact ⟨trivial, h4⟩) hf
    have hdl : DL Z w rows.flatten us := by
      clear h1 hf
      generalize rows.flatten = xs at h2
      induction xs generalizing us with
      | nil => match us, h2 with | [], _ => trivial
      | cons x xs ih => match us, h2 with | u :: us, h2 => exact ⟨h2.1, ih us h2.2⟩
    have hr := run_buildSlice (P := P) (w := w) hT hn h1
    have hgr := World.grownBy_alloc w (.cells us.toArray e) none
    have hsame : Same Z w (w.alloc (.cells us.toArray e)) := fun g hz => hgr.block g (hg.zlt g hz) (by simp)
    have hul : us.length = n * wd := by rw [hdl.len, flatten_len hrw, hrl]
    refine ⟨.slice (some ⟨w.heap.size, 0, none⟩) n n, w.alloc (.cells us.toArray e), ?_, hgr, do_row.2 ⟨hrw, us, hdl.mono (fun _ h => h) hsame, .inr ⟨w.heap.size, 0, n, us.toArray, by simp [hrl], heap_alloc_new w _, by omega, ?_, by simp [hul], by rw [hul, hrl], fun k u hk => by simpa using hk⟩⟩, fun g hb => by cases hb; exact Nat.le_refl _, by simp [OB.tags], rfl, fun h => by cases h⟩
    · have e2 : (Array.map (fun x : Nat × Operand => match x with | (i, x) => (i, a.eval x)) ps.toArray) = (ps.map fun (i, x) => (i, a.eval x)).toArray := by simp
      simp only [execOp]
      rw [e2, Sem.run_bind, hr]; rfl
    · have := hT.pos
      have h5 : n * 1 ≤ n * wd := Nat.mul_le_mul_left n this
      simp only [maxLen]; omega

/-- The operands of a literal of one-cell elements. -/
inductive P1 (S : Nat → AV) : Nat → List (Nat × Operand) → List CV → Prop where
  | nil (k : Nat) : P1 S k [] []
  | cons {k : Nat} {x : Operand} {c : CV} {ps : List (Nat × Operand)} {cs : List CV} : Ag S x (.c c) → P1 S (k + 1) ps cs → P1 S k ((k, x) :: ps) (c :: cs)

theorem P1.ag {S : Nat → AV} {k : Nat} {ps : List (Nat × Operand)} {cs : List CV} (h : P1 S k ps cs) : AgL S (rdParts ps (cs.map fun c => .one (.c c))) := by
  induction h with
  | nil => trivial
  | cons h1 _ ih => exact ⟨h1, ih⟩
theorem P1.len {S : Nat → AV} {k : Nat} {ps : List (Nat × Operand)} {cs : List CV} (h : P1 S k ps cs) : ps.length = cs.length := by
  induction h with
  | nil => rfl
  | cons h1 _ ih => simp [ih]

theorem P1.fill {S : Nat → AV} {k : Nat} {ps : List (Nat × Operand)} {cs : List CV} (h : P1 S k ps cs) : ∀ (pre post : List A1), pre.length = k → post.length = cs.length →
    afill (fun i => some (i * 1, 1)) (pre ++ post) ((ps.map (·.1)).zip ((cs.map fun c => AR.one (.c c)).map (·.cells))) = some (pre ++ cs.map A1.c) := by
  induction h with
  | nil k => intro pre post h1 h2; have : post = [] := List.eq_nil_of_length_eq_zero (by simpa using h2); subst this; rfl
  | @cons k x c ps cs h1 _ ih =>
    intro pre post hp hq
    match post, hq with
    | q :: post, hq =>
      simp only [List.map_cons, List.zip_cons_cons, afill]
      have e0 : AR.cells (.one (.c c)) = [A1.c c] := rfl
      rw [e0]
      have e1 : (Nat.beq [A1.c c].length 1 && Nat.ble (k * 1 + [A1.c c].length) (pre ++ q :: post).length) = true := by
        rw [Bool.and_eq_true]
        exact ⟨rfl, Nat.ble_eq_true_of_le (by simp; omega)⟩
      rw [e1]
      have e2 : splice (pre ++ q :: post) (k * 1) [A1.c c] = (pre ++ [A1.c c]) ++ post := by
        simp only [splice, Nat.mul_one]
        have e3 : (pre ++ q :: post).take k = pre := by rw [← hp]; simp
        have e4 : (pre ++ q :: post).drop (k + [A1.c c].length) = post := by
          rw [← hp]
          show (pre ++ q :: post).drop (pre.length + 1) = post
          rw [← List.drop_drop]; simp
        rw [e3, e4]
      rw [e2]
      show afill _ _ _ = _
      have := ih (pre ++ [A1.c c]) post (by simp [hp]) (by simpa using hq)
      rw [this]
      simp

theorem flatten_ones (cs : List CV) : (cs.map fun c => [c]).flatten = cs := by
  induction cs with
  | nil => rfl
  | cons c cs ih => simp [ih]

theorem opx_lit1 {S : Nat → AV} {u n : Nat} {T e bytes : Nat} {zs : List Value} [hT : SlT P T e 1 bytes zs] {ps : List (Nat × Operand)} {cs : List CV} (h : P1 S 0 ps cs) (hn : cs.length = n) (hb : Nat.ble n 16777216 = true) :
    OpX P ⟨some d, .buildSlice T n ps.toArray, ty, pos, af, gd⟩ (rdParts ps (cs.map fun c => .one (.c c))) [] [u] [(d, .own u)] [(u, .row 1 e (cs.map fun c => [c]))] :=
  opx_lit ps (cs.map fun c => .one (.c c)) (cs.map fun c => [c]) (by simp [h.len]) (by simpa using Nat.le_of_ble_eq_true hb) (by simpa using hn) (by simp) (by
    rw [flatten_ones]
    have := h.fill [] ((litZeros zs n).map fun v => .c (.raw v)) rfl (by rw [List.length_map, litZeros_len, hT.len, hn]; omega)
    simpa using this)

/-- '[]T{}' -/
theorem opx_lit0 {u : Nat} {T e wd bytes : Nat} {zs : List Value} [hT : SlT P T e wd bytes zs] :
    OpX P ⟨some d, .buildSlice T 0 #[], ty, pos, af, gd⟩ [] [] [u] [(d, .own u)] [(u, .row wd e [])] :=
  opx_lit [] [] [] rfl (by simp) rfl (by simp) (by simp [afill, litZeros])

/-- one struct: '[]T{x}', what 'append(s, x)' appends -/
theorem opx_lits {u : Nat} {T e wd bytes : Nat} {zs : List Value} [hT : SlT P T e wd bytes zs] {row : List CV} {xs : List A1} (hx : xs = row.map A1.c) (hl : row.length = wd) (hw : wd ≤ 16777216) :
    OpX P ⟨some d, .buildSlice T 1 #[(0, x)], ty, pos, af, gd⟩ [(x, .agg xs)] [] [u] [(d, .own u)] [(u, .row wd e [row])] :=
  opx_lit [(0, x)] [.agg xs] [row] rfl (by simpa using hw) rfl (by simpa using hl) (by
    subst hx
    have hz : ((litZeros zs 1).map fun v => A1.c (.raw v)).length = wd := by rw [List.length_map, litZeros_len, hT.len]; omega
    simp only [List.map_cons, List.map_nil, List.zip_cons_cons, List.zip_nil_left, afill, AR.cells]
    have e1 : (Nat.beq (row.map A1.c).length wd && Nat.ble (0 * wd + (row.map A1.c).length) ((litZeros zs 1).map fun v => A1.c (.raw v)).length) = true := by
      rw [Bool.and_eq_true, hz, List.length_map, hl]
      exact ⟨Nat.beq_refl _, Nat.ble_eq_true_of_le (by omega)⟩
    rw [e1]
    simp only [cond_true, Option.some.injEq, splice, Nat.zero_mul, List.take_zero, List.nil_append, Nat.zero_add]
    rw [List.drop_of_length_le (by rw [hz, List.length_map, hl]; exact Nat.le_refl _)]
    simp)
theorem opx_lits2 {u : Nat} {T e bytes : Nat} {zs : List Value} [hT : SlT P T e 2 bytes zs] {a b : CV} :
    OpX P ⟨some d, .buildSlice T 1 #[(0, x)], ty, pos, af, gd⟩ [(x, .agg [.c a, .c b])] [] [u] [(d, .own u)] [(u, .row 2 e [[a, b]])] := opx_lits rfl rfl (by omega)
theorem opx_lits3 {u : Nat} {T e bytes : Nat} {zs : List Value} [hT : SlT P T e 3 bytes zs] {a b c : CV} :
    OpX P ⟨some d, .buildSlice T 1 #[(0, x)], ty, pos, af, gd⟩ [(x, .agg [.c a, .c b, .c c])] [] [u] [(d, .own u)] [(u, .row 3 e [[a, b, c]])] := opx_lits rfl rfl (by omega)

/-! ### make -/
theorem litZeros_rep (zs : List Value) (n : Nat) : litZeros zs n = (List.replicate n zs).flatten := by
  induction n with
  | zero => simp [litZeros]
  | succ n ih =>
    rw [List.replicate_succ', List.flatten_append, ← ih]
    simp only [litZeros, List.flatten_cons, List.flatten_nil, List.append_nil]
    have e : (n + 1) * zs.length = n * zs.length + zs.length := by rw [Nat.add_mul]; omega
    rw [e, List.range_add, List.map_append]
    congr 1
    apply List.ext_getElem?
    intro k
    simp only [List.map_map, List.getElem?_map, List.getElem?_range]
    by_cases hk : k < zs.length
    · rw [List.getElem?_range hk]
      simp only [Option.map_some, Function.comp]
      have e2 : (n * zs.length + k) % zs.length = k := by
        rw [Nat.mul_comm, Nat.mul_add_mod]; exact Nat.mod_eq_of_lt hk
      rw [e2, getElem!_pos zs k hk, List.getElem?_eq_getElem hk]
    · rw [List.getElem?_eq_none (by simpa using hk), List.getElem?_eq_none (by omega)]
      rfl

theorem dl_raw {Z : Nat → Prop} {w : World} : ∀ {zs : List Value}, zs.all (·.oneCell') = true → DL Z w (zs.map .raw) zs
  | [], _ => trivial
  | z :: zs, h => by
    simp only [List.all_cons, Bool.and_eq_true] at h
    exact ⟨DC.raw z h.1, dl_raw h.2⟩

/-- 'make([]T, l, c)' -/
theorem opx_make {u : Nat} {T e wd bytes : Nat} {zs : List Value} [hT : SlT P T e wd bytes zs] {l c : Nat} {li ci : Int} (hli : li = (l : Int)) (hci : ci = (c : Int)) (hlc : l ≤ c) (hc : c ≤ maxLen) (hb : bytes * c ≤ 281474976710656) :
    OpX P ⟨some d, .makeSlice T x y, ty, pos, af, gd⟩ [(x, .i li), (y, .i ci)] [] [u] [(d, .own u)] [(u, .row wd e (List.replicate l (zs.map .raw)))] :=
  opx_new rfl (.inl rfl) fun cx S O V a w ρ Z hg hR hO hV => by
    subst hli hci
    obtain ⟨i, z, hu, hi, hz, hs, hbb, hzc, hzs⟩ := sl_parts hT
    have hl := hT.len
    subst hs
    have hb' : (bytes : Int) * (c : Int) ≤ 281474976710656 := by
      have h : ((bytes * c : Nat) : Int) ≤ 281474976710656 := by omega
      rwa [Int.natCast_mul] at h
    have hr := run_make (P := P) w T e i z hu hi hz .i64 .i64 (l : Int) (c : Int) (by omega) (by omega) (by rw [hbb]; exact hb') (by simp only [maxLen] at hc; omega)
    simp only [Int.toNat_natCast] at hr
    have hmade : madeCells z.cells (c * i.size) = (litZeros zs c).toArray := by
      simp only [madeCells, litZeros, hzc, List.size_toArray, hl]
      apply Array.ext'
      simp
    rw [hmade] at hr
    have hgr := World.grownBy_alloc w (.cells (litZeros zs c).toArray e) none
    refine ⟨.slice (some ⟨w.heap.size, 0, none⟩) l c, w.alloc (.cells (litZeros zs c).toArray e), ?_, hgr, do_row.2 ⟨by intro r hr; rw [List.mem_replicate] at hr; rw [hr.2]; simpa using hl, litZeros zs l, ?_, .inr ⟨w.heap.size, 0, c, (litZeros zs c).toArray, by simp, heap_alloc_new w _, by simpa using hlc, hc, by simp [litZeros_len, hl], by simp [litZeros_len, hl], ?_⟩⟩, fun g hb => by cases hb; exact Nat.le_refl _, by simp [OB.tags], rfl, fun h => by cases h⟩
    · simp only [execOp, da_raw (hg.ag hR.1), da_raw (hg.ag hR.2.1)]
      rw [Sem.run_bind, hr]; rfl
    · have e : (List.replicate l (zs.map CV.raw)).flatten = (litZeros zs l).map .raw := by
        rw [litZeros_rep, List.map_flatten, List.map_replicate]
      rw [e]
      exact dl_raw (litZeros_one hT.one l)
    · intro k u hk
      have hlt : k < (litZeros zs l).length := (List.getElem?_eq_some_iff.1 hk).1
      rw [litZeros_len] at hlt
      have e : litZeros zs c = litZeros zs l ++ litZeros zs (c - l) := by
        rw [litZeros_rep, litZeros_rep, litZeros_rep, ← List.flatten_append, List.replicate_append_replicate]
        congr 2; omega
      simp only [Nat.zero_add, List.getElem?_toArray]
      rw [e, List.getElem?_append_left (by rw [litZeros_len]; exact hlt)]
      exact hk

/-! ### slices of slices -/
theorem run_slice {w : World} {T e wd bytes : Nat} {zs : List Value} (hT : SlT P T e wd bytes zs) {A : Option Addr} {n c l h : Nat} {lo hi : Option Value}
    (hlo : lo = some (.int .i64 (l : Int)) ∨ lo = none ∧ l = 0) (hhi : hi = some (.int .i64 (h : Int)) ∨ hi = none ∧ h = n) (hlh : l ≤ h) (hhc : h ≤ c) :
    (Instr.sliceAt T (.slice A n c) lo hi none).run P w = .ok (.slice (if c = l then A else A.map (·.add (l * wd))) (h - l) (c - l)) w := by
  obtain ⟨i, z, hu, hi', hz, hs, hbb, hzc, hzs⟩ := sl_parts hT
  subst hs
  have e1 : (h : Int) ≤ (c : Int) := by omega
  have e2 : (l : Int) ≤ (h : Int) := by omega
  rcases hlo with rfl | ⟨rfl, rfl⟩ <;> rcases hhi with rfl | ⟨rfl, rfl⟩ <;>
    simp [Instr.sliceAt, Instr.slice, run_underlying hu, Instr.sliceBounds, Instr.sliceBound, asIntOf, sizeOf, typeInfo, hi', hhc, hlh, e1, e2]

def OptAg (S : Nat → AV) : Option Operand → Nat → Nat → Prop
  | some x, k, _ => Ag S x (.i k)
  | none, k, dflt => k = dflt

theorem slice_rows {α : Type} (rows : List α) (l h : Nat) (hlh : l ≤ h) (hh : h ≤ rows.length) : ((rows.take h).drop l).length = h - l := by simp; omega

theorem flat_take {wd : Nat} (k : Nat) : ∀ {rows : List (List CV)}, (∀ r ∈ rows, r.length = wd) → (rows.take k).flatten = rows.flatten.take (k * wd) := by
  induction k with
  | zero => intro rows _; simp
  | succ k ih =>
    intro rows h
    cases rows with
    | nil => simp
    | cons r rows =>
      have hr := h r (.head _)
      have e : (k + 1) * wd = r.length + k * wd := by rw [hr, Nat.add_mul]; omega
      rw [List.take_succ_cons, List.flatten_cons, List.flatten_cons, ih (fun r hr => h r (.tail _ hr)), e, List.take_length_add_append]
theorem flat_drop {wd : Nat} (k : Nat) : ∀ {rows : List (List CV)}, (∀ r ∈ rows, r.length = wd) → (rows.drop k).flatten = rows.flatten.drop (k * wd) := by
  induction k with
  | zero => intro rows _; simp
  | succ k ih =>
    intro rows h
    cases rows with
    | nil => simp
    | cons r rows =>
      have hr := h r (.head _)
      have e : (k + 1) * wd = r.length + k * wd := by rw [hr, Nat.add_mul]; omega
      rw [List.drop_succ_cons, List.flatten_cons, ih (fun r hr => h r (.tail _ hr)), e, List.drop_length_add_append]

theorem dc_slice {Z : Nat → Prop} {w : World} {wd : Nat} {rows : List (List CV)} {A : Option Addr} {n c l h : Nat} (hd : DC Z w (.sl wd rows) (.slice A n c)) (hlh : l ≤ h) (hh : h ≤ rows.length) :
    h ≤ c ∧ DC Z w (.sl wd ((rows.take h).drop l)) (.slice (if c = l then A else A.map (·.add (l * wd))) (h - l) (c - l)) := by
  cases hd with
  | nil _ _ _ hm =>
    have h0 : h = 0 := by simpa using hh
    subst h0
    have l0 : l = 0 := by omega
    subst l0
    simp only [List.take_nil, List.drop_nil, Nat.sub_zero]
    exact ⟨Nat.zero_le _, .nil wd _ c hm⟩
  | sl _ _ b off n cap us hn hw hz hc hm hl hcell hd =>
    subst hn
    refine ⟨by omega, ?_⟩
    by_cases he : h = l
    · subst he
      have : (rows.take h).drop h = [] := by rw [List.drop_eq_nil_iff]; simp; omega
      rw [this, Nat.sub_self]
      exact .nil wd _ _ (by omega)
    · rw [if_neg (by omega)]
      simp only [Option.map_some, addr_add]
      have hDL : DL Z w rows.flatten us := DL.mk hl hd
      have e : ((rows.take h).drop l).flatten = (rows.flatten.take (h * wd)).drop (l * wd) := by
        rw [flat_drop l (fun r hr => hw r (List.mem_of_mem_take hr)), flat_take h hw]
      have hDL2 := (hDL.take (h * wd)).drop (l * wd)
      rw [← e] at hDL2
      refine .sl wd _ b (off + l * wd) (h - l) (c - l) ((us.take (h * wd)).drop (l * wd)) (slice_rows rows l h hlh hh) (fun r hr => hw r (List.mem_of_mem_take (List.mem_of_mem_drop hr))) hz (by omega) (by omega) hDL2.len ?_ (fun k hk hk' => hDL2.at k hk hk')
      intro k u hk
      rw [List.getElem?_drop, List.getElem?_take] at hk
      split at hk
      · rw [Nat.add_assoc]; exact hcell _ u hk
      · cases hk

theorem optag_val {cx : Cx} {S : Nat → AV} {O : Nat → OB} {V : Nat → Prop} {a : Act} {w : World} {ρ : Nat → Value} {Z : Nat → Prop} (hg : Good cx S O V a w ρ Z) {o : Option Operand} {k dflt : Nat}
    (h : OptAg S o k dflt) : o.map a.eval = some (.int .i64 (k : Int)) ∨ o.map a.eval = none ∧ k = dflt := by
  cases o with
  | none => exact .inr ⟨rfl, h⟩
  | some x => exact .inl (by simp only [Option.map_some]; rw [da_raw (hg.ag h)])

def rdOpt : Option Operand → Nat → List (Operand × AV)
  | some x, k => [(x, .i k)]
  | none, _ => []

theorem AgL.split {S : Nat → AV} : ∀ {A B : List (Operand × AV)}, AgL S (A ++ B) → AgL S A ∧ AgL S B
  | [], _, h => ⟨trivial, h⟩
  | _ :: A, B, h => ⟨⟨h.1, (AgL.split (A := A) h.2).1⟩, (AgL.split (A := A) h.2).2⟩

theorem optag_of {S : Nat → AV} {o : Option Operand} {k dflt : Nat} (h : AgL S (rdOpt o k)) (hk : o = none → k = dflt) : OptAg S o k dflt := by
  cases o with
  | none => exact hk rfl
  | some x => exact h.1

/-- a slice in the zone, sliced -/
theorem opx_slice_sl {T e wd bytes : Nat} {zs : List Value} [hT : SlT P T e wd bytes zs] {rows : List (List CV)} {lo hi : Option Operand} {l h : Nat} (hlo : lo = none → l = 0) (hhi : hi = none → h = rows.length) (hlh : l ≤ h) (hh : h ≤ rows.length) :
    OpX P ⟨some d, .slice T x lo hi none, ty, pos, af, gd⟩ ((x, .sl wd rows) :: (rdOpt lo l ++ rdOpt hi h)) [] [] [(d, .sl wd ((rows.take h).drop l))] [] :=
  opx_val rfl fun cx S O V a w ρ Z hg hR hO => by
    obtain ⟨h1, h2⟩ := AgL.split hR.2
    have hv : DC Z w (.sl wd rows) (a.eval x) := hg.ag hR.1
    obtain ⟨A, c, us, hx, _⟩ := slv_read hg (av := .sl wd rows) ⟨rfl, rfl⟩ hv
    rw [hx] at hv
    obtain ⟨hhc, hd⟩ := dc_slice hv hlh hh
    have hr := run_slice (P := P) (w := w) hT (A := A) (n := rows.length) (c := c) (optag_val hg (optag_of h1 hlo)) (optag_val hg (optag_of h2 hhi)) hlh hhc
    refine ⟨_, by simp only [execOp, hx]; rw [Sem.run_bind]; erw [hr]; rfl, hd, by simp [AV.tags, AR.tags, A1.tag]⟩

/-- a frozen object, sliced -/
theorem opx_slice_froz {u : Nat} {T e wd bytes : Nat} {zs : List Value} [hT : SlT P T e wd bytes zs] {rows : List (List CV)} {lo hi : Option Operand} {l h : Nat} (hlo : lo = none → l = 0) (hhi : hi = none → h = rows.length) (hlh : l ≤ h) (hh : h ≤ rows.length) :
    OpX P ⟨some d, .slice T x lo hi none, ty, pos, af, gd⟩ ((x, .own u) :: (rdOpt lo l ++ rdOpt hi h)) [(u, .froz wd rows)] [] [(d, .sl wd ((rows.take h).drop l))] [] :=
  opx_val rfl fun cx S O V a w ρ Z hg hR hO => by
    obtain ⟨h1, h2⟩ := AgL.split hR.2
    have ho := hg.obj u
    rw [hO.1] at ho
    have hv : DC Z w (.sl wd rows) (a.eval x) := by rw [(hg.ag hR.1).1]; exact ho
    obtain ⟨A, c, us, hx, _⟩ := slv_read hg (av := .sl wd rows) ⟨rfl, rfl⟩ hv
    rw [hx] at hv
    obtain ⟨hhc, hd⟩ := dc_slice hv hlh hh
    have hr := run_slice (P := P) (w := w) hT (A := A) (n := rows.length) (c := c) (optag_val hg (optag_of h1 hlo)) (optag_val hg (optag_of h2 hhi)) hlh hhc
    refine ⟨_, by simp only [execOp, hx]; rw [Sem.run_bind]; erw [hr]; rfl, hd, by simp [AV.tags, AR.tags, A1.tag]⟩
end
end Go.Proofs.YtllgddednlfhfaaDoor

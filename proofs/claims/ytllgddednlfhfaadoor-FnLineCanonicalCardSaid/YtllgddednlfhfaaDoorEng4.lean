/-
  Operations on memory: variables, structs, slices.
-/
import Derived.Test.YtllgddednlfhfaaDoorEng3
namespace Go.Proofs.YtllgddednlfhfaaDoor
open Go.RowKit
set_option linter.unusedVariables false

/-! ### facts on types -/
def oneTy (P : Program) (t : TypeId) : Bool :=
  (match P.underlying t with
  | some (.struct _) | some (.array ..) | none => false
  | _ => true) && ((P.info? t).map (·.size) == some 1)
class TyOne (P : Program) (t : TypeId) : Prop where
  ok : oneTy P t = true
def strTy (P : Program) (t : TypeId) : Option Nat :=
  match P.underlying t with
  | some (.struct _) => (P.info? t).map (·.size)
  | _ => none
class TyStr (P : Program) (t : TypeId) (n : outParam Nat) : Prop where
  ok : strTy P t = some n
def zeroTy (P : Program) (t : TypeId) : Option (List Value × Nat) := (P.info? t).bind fun i => i.zero.map fun z => (z.cells.toList, i.size)
class TyZ (P : Program) (t : TypeId) (zs : outParam (List Value)) : Prop where
  ok : zeroTy P t = some (zs, zs.length)
  one : zs.all (·.oneCell') = true
def fldTy (P : Program) (t : TypeId) (k : Nat) : Option Nat :=
  match P.underlying t with
  | some (.struct fs) => (fs[k]?).bind fun f => (P.info? f.type).bind fun j => if j.size = 0 then none else some f.offset
  | _ => none
class Fld (P : Program) (t : TypeId) (k : Nat) (off : outParam Nat) : Prop where
  ok : fldTy P t k = some off
def slTy (P : Program) (T : TypeId) : Option (TypeId × Nat × Nat × List Value) :=
  match P.underlying T with
  | some (.slice e) => (P.info? e).bind fun i => i.zero.map fun z => (e, i.size, i.bytes, z.cells.toList)
  | _ => none
class SlT (P : Program) (T : TypeId) (e wd bytes : outParam Nat) (zs : outParam (List Value)) : Prop where
  ok : slTy P T = some (e, wd, bytes, zs)
  len : zs.length = wd
  pos : 0 < wd
  one : zs.all (·.oneCell') = true

section
variable {P : Program} {w : World}

theorem run_isAgg_one {t : TypeId} (h : TyOne P t) : (isAgg t).run P w = .ok false w := by
  have h := h.ok
  unfold oneTy at h
  cases hu : P.underlying t with
  | none => rw [hu] at h; simp at h
  | some d =>
    rw [hu] at h
    cases d <;> first | (simp at h; done) | simp [isAgg, run_underlying hu]
theorem run_size_one {t : TypeId} (h : TyOne P t) : (sizeOf t).run P w = .ok 1 w := by
  have h := h.ok
  unfold oneTy at h
  rw [Bool.and_eq_true] at h
  cases hi : P.info? t with
  | none => rw [hi] at h; simp at h
  | some i =>
    rw [hi] at h
    simp at h
    simp [sizeOf, typeInfo, hi, h.2]

theorem run_isAgg_str {t : TypeId} {n : Nat} (h : TyStr P t n) : (isAgg t).run P w = .ok true w ∧ (sizeOf t).run P w = .ok n w := by
  have h := h.ok
  unfold strTy at h
  cases hu : P.underlying t with
  | none => rw [hu] at h; cases h
  | some d =>
    rw [hu] at h
    cases d <;> first | (cases h; done) | skip
    rename_i fs
    cases hi : P.info? t with
    | none => rw [hi] at h; cases h
    | some i =>
      rw [hi] at h
      cases h
      exact ⟨by simp [isAgg, run_underlying hu], by simp [sizeOf, typeInfo, hi]⟩

theorem run_zero {t : TypeId} {zs : List Value} (h : TyZ P t zs) : ∃ z : Value, (zeroValue t).run P w = .ok z w ∧ z.cells = zs.toArray ∧ (sizeOf t).run P w = .ok zs.length w := by
  have h := h.ok
  unfold zeroTy at h
  cases hi : P.info? t with
  | none => rw [hi] at h; cases h
  | some i =>
    rw [hi] at h
    cases hz : i.zero with
    | none => simp [hz] at h
    | some z =>
      simp [hz] at h
      refine ⟨z, by simp [zeroValue, typeInfo, hi, hz], ?_, by simp [sizeOf, typeInfo, hi, h.2]⟩
      rw [← h.1]

theorem sl_parts {T e wd bytes : Nat} {zs : List Value} (h : SlT P T e wd bytes zs) : ∃ (i : TypeInfo) (z : Value), P.underlying T = some (.slice e) ∧ P.info? e = some i ∧ i.zero = some z ∧ i.size = wd ∧ i.bytes = bytes ∧ z.cells = zs.toArray ∧ z.cells.size = wd := by
  have h1 := h.ok
  unfold slTy at h1
  cases hu : P.underlying T with
  | none => rw [hu] at h1; cases h1
  | some d =>
    rw [hu] at h1
    cases d <;> first | (cases h1; done) | skip
    rename_i e'
    dsimp only at h1
    cases hi : P.info? e' with
    | none => rw [hi] at h1; cases h1
    | some i =>
      rw [hi] at h1
      cases hz : i.zero with
      | none => simp [hz] at h1
      | some z =>
        simp [hz] at h1
        obtain ⟨rfl, h2, h3, h4⟩ := h1
        refine ⟨i, z, rfl, hi, hz, h2, h3, by rw [← h4], ?_⟩
        have := h.len
        rw [← h4] at this
        simpa using this

end

section
variable {P : Program} {R : List (Operand × AV)} {RO : List (Nat × OB)}
variable {d : Nat} {x y z : Operand} {t t' ty : TypeId} {pos : String} {af : Array Edge} {gd : Option (Nat × Bool)}

/-! ### addresses of fields and elements -/
theorem run_fieldAt {P : Program} {w : World} {k off b o : Nat} (h : Fld P t k off) : (Instr.fieldAt t (.pointer (some ⟨b, o, none⟩)) k).run P w = .ok (.pointer (some ⟨b, o + off, none⟩)) w := by
  have h := h.ok
  unfold fldTy at h
  cases hu : P.underlying t with
  | none => rw [hu] at h; cases h
  | some d =>
    rw [hu] at h
    cases d <;> first | (cases h; done) | skip
    rename_i fs
    dsimp only at h
    cases hf : fs[k]? with
    | none => rw [hf] at h; cases h
    | some f =>
      rw [hf] at h
      cases hj : P.info? f.type with
      | none => simp [hj] at h
      | some j =>
        by_cases hs : j.size = 0
        · simp [hj, hs] at h
        · simp [hj, hs] at h
          subst h
          simp [Instr.fieldAt, run_underlying hu, hf, Instr.sureAddr, fieldPlace, sizeOf, typeInfo, hj, hs]
          unfold Addr.add
          split <;> simp_all

theorem opx_fa_ref {u off k o : Nat} [h : Fld P t k o] : OpX P ⟨some d, .fieldAddr t x k, ty, pos, af, gd⟩ [(x, .ref u off)] [] [] [(d, .ref u (off + o))] [] :=
  opx_val rfl fun cx S O V a w ρ Z hg hR _ => by
    obtain ⟨g, o', h1, h2⟩ := hg.ag hR.1
    refine ⟨.pointer (some ⟨g, o' + off + o, none⟩), by simp [execOp, h2, run_fieldAt h], ⟨g, o', h1, by rw [Nat.add_assoc]⟩, fun s hs => hg.agv hR.1 s (by simpa [AV.tags, AR.tags, A1.tag] using hs)⟩
theorem opx_fa_el {u wd i j k o : Nat} [h : Fld P t k o] : OpX P ⟨some d, .fieldAddr t x k, ty, pos, af, gd⟩ [(x, .el u wd i j)] [] [] [(d, .el u wd i (j + o))] [] :=
  opx_val rfl fun cx S O V a w ρ Z hg hR _ => by
    obtain ⟨g, o', h1, h2⟩ := hg.ag hR.1
    refine ⟨.pointer (some ⟨g, o' + (i * wd + j) + o, none⟩), by simp [execOp, h2, run_fieldAt h], ⟨g, o', h1, by simp [Nat.add_assoc]⟩, fun s hs => hg.agv hR.1 s (by simpa [AV.tags, AR.tags, A1.tag] using hs)⟩
theorem opx_fa_imm {xs ys : List CV} {k o : Nat} [h : Fld P t k o] (hy : xs.drop o = ys) : OpX P ⟨some d, .fieldAddr t x k, ty, pos, af, gd⟩ [(x, .imm xs)] [] [] [(d, .imm ys)] [] :=
  opx_val rfl fun cx S O V a w ρ Z hg hR _ => by
    obtain ⟨b, off, us, h1, h2, h3, h4⟩ := hg.ag hR.1
    subst hy
    refine ⟨.pointer (some ⟨b, off + o, none⟩), by simp [execOp, h1, run_fieldAt h], ⟨b, off + o, us.drop o, rfl, h2, h3.drop o, fun k u hu => ?_⟩, by simp [AV.tags, AR.tags, A1.tag]⟩
    rw [Nat.add_assoc]
    exact h4 _ u (by rw [← hu, List.getElem?_drop])

theorem opx_fa_imm0 {xs : List CV} {k : Nat} [h : Fld P t k 0] : OpX P ⟨some d, .fieldAddr t x k, ty, pos, af, gd⟩ [(x, .imm xs)] [] [] [(d, .imm xs)] [] := opx_fa_imm rfl
theorem opx_fa_imm1 {a : CV} {xs : List CV} {k : Nat} [h : Fld P t k 1] : OpX P ⟨some d, .fieldAddr t x k, ty, pos, af, gd⟩ [(x, .imm (a :: xs))] [] [] [(d, .imm xs)] [] := opx_fa_imm rfl
theorem opx_fa_imm2 {a b : CV} {xs : List CV} {k : Nat} [h : Fld P t k 2] : OpX P ⟨some d, .fieldAddr t x k, ty, pos, af, gd⟩ [(x, .imm (a :: b :: xs))] [] [] [(d, .imm xs)] [] := opx_fa_imm rfl
theorem opx_fa_imm3 {a b c : CV} {xs : List CV} {k : Nat} [h : Fld P t k 3] : OpX P ⟨some d, .fieldAddr t x k, ty, pos, af, gd⟩ [(x, .imm (a :: b :: c :: xs))] [] [] [(d, .imm xs)] [] := opx_fa_imm rfl

theorem flat_at {wd : Nat} : ∀ (rows : List (List CV)) (i : Nat) (row : List CV), (∀ r ∈ rows, r.length = wd) → rows[i]? = some row → (rows.flatten.drop (i * wd)).take wd = row
  | r :: rows, 0, row, hw, h => by
    have hr := hw r (.head _)
    cases h
    simp [← hr]
  | r :: rows, i + 1, row, hw, h => by
    have hr := hw r (.head _)
    have e : (i + 1) * wd = r.length + i * wd := by rw [hr, Nat.add_mul]; omega
    rw [List.flatten_cons, e, List.drop_append]
    simp only [Nat.add_sub_cancel_left]
    rw [List.drop_of_length_le (by omega), List.nil_append]
    exact flat_at rows i row (fun r hr => hw r (.tail _ hr)) (by simpa using h)
  | [], i, row, _, h => by simp at h

theorem run_indexAt {P : Program} {w : World} {T e wd bytes : Nat} {zs : List Value} (h : SlT P T e wd bytes zs) {b o n cap k : Nat} (hk : k < n) :
    (Instr.indexAt T (.slice (some ⟨b, o, none⟩) n cap) (.int .i64 (k : Int))).run P w = .ok (.pointer (some ⟨b, o + k * wd, none⟩)) w := by
  obtain ⟨i, z, hu, hi, _, hs, _⟩ := sl_parts h
  simp [Instr.indexAt, asIntOf, run_underlying hu, sizeOf, typeInfo, hi, hs, hk]
  unfold Addr.add
  split <;> simp_all

theorem DC.sl_at {Z : Nat → Prop} {w : World} {wd : Nat} {rows : List (List CV)} {v : Value} (h : DC Z w (.sl wd rows) v) {k : Nat} {row : List CV} (hk : rows[k]? = some row) :
    ∃ b o cap us, v = .slice (some ⟨b, o, none⟩) rows.length cap ∧ Z b ∧ DL Z w row us ∧ ∀ j u, us[j]? = some u → w.cell? ⟨b, o + k * wd + j, none⟩ = some u := by
  cases h with
  | nil => simp at hk
  | sl _ _ b off n cap us hn hw hz hc hm hl hcell hd =>
    subst hn
    have hDL : DL Z w rows.flatten us := DL.mk hl hd
    have hf := flat_at rows k row hw hk
    refine ⟨b, off, cap, (us.drop (k * wd)).take wd, rfl, hz, hf ▸ (hDL.drop (k * wd)).take wd, fun j u hu => ?_⟩
    rw [List.getElem?_take] at hu
    split at hu
    · rw [List.getElem?_drop] at hu
      rw [Nat.add_assoc]
      exact hcell _ u hu
    · cases hu

theorem opx_ia_sl {T e wd bytes : Nat} {zs : List Value} [h : SlT P T e wd bytes zs] {rows : List (List CV)} {row : List CV} {i : Int} {k : Nat} (hi : i = (k : Int)) (hk : rows[k]? = some row) :
    OpX P ⟨some d, .indexAddr T x y, ty, pos, af, gd⟩ [(x, .sl wd rows), (y, .i i)] [] [] [(d, .imm row)] [] :=
  opx_val rfl fun cx S O V a w ρ Z hg hR _ => by
    have h2 := da_raw (hg.ag hR.2.1)
    obtain ⟨b, o, cap, us, h3, h4, h5, h6⟩ := DC.sl_at (hg.ag hR.1) hk
    have hlt : k < rows.length := (List.getElem?_eq_some_iff.1 hk).1
    subst hi
    exact ⟨.pointer (some ⟨b, o + k * wd, none⟩), by simp [execOp, h2, h3, run_indexAt h hlt], ⟨b, o + k * wd, us, rfl, h4, h5, h6⟩, by simp [AV.tags, AR.tags, A1.tag]⟩

theorem opx_ia_froz {T e wd bytes u : Nat} {zs : List Value} [h : SlT P T e wd bytes zs] {rows : List (List CV)} {row : List CV} {i : Int} {k : Nat} (hi : i = (k : Int)) (hk : rows[k]? = some row) :
    OpX P ⟨some d, .indexAddr T x y, ty, pos, af, gd⟩ [(x, .own u), (y, .i i)] [(u, .froz wd rows)] [] [(d, .imm row)] [] :=
  opx_val rfl fun cx S O V a w ρ Z hg hR hO => by
    have h2 := da_raw (hg.ag hR.2.1)
    have h1 := (hg.ag hR.1).1
    have ho := hg.obj u
    rw [hO.1] at ho
    obtain ⟨b, o, cap, us, h3, h4, h5, h6⟩ := DC.sl_at ho hk
    have hlt : k < rows.length := (List.getElem?_eq_some_iff.1 hk).1
    subst hi
    exact ⟨.pointer (some ⟨b, o + k * wd, none⟩), by simp [execOp, h2, h1, h3, run_indexAt h hlt], ⟨b, o + k * wd, us, rfl, h4, h5, h6⟩, by simp [AV.tags, AR.tags, A1.tag]⟩

theorem opx_ia_own {T e wd bytes u e' : Nat} {zs : List Value} [h : SlT P T e wd bytes zs] {rows : List (List CV)} {i : Int} {k : Nat} (hi : i = (k : Int)) (hk : k < rows.length) :
    OpX P ⟨some d, .indexAddr T x y, ty, pos, af, gd⟩ [(x, .own u), (y, .i i)] [(u, .row wd e' rows)] [] [(d, .el u wd k 0)] [] :=
  opx_val rfl fun cx S O V a w ρ Z hg hR hO => by
    have h2 := da_raw (hg.ag hR.2.1)
    have h1 := (hg.ag hR.1).1
    have ho := hg.obj u
    rw [hO.1] at ho
    subst hi
    rcases ho.2 with ⟨_, rfl⟩ | ⟨g, off, cap, cur, us, h3, _⟩
    · simp at hk
    · exact ⟨.pointer (some ⟨g, off + k * wd, none⟩), by simp [execOp, h2, h1, h3, run_indexAt h hk], ⟨g, off, by rw [h3]; rfl, rfl⟩, fun s hs => hg.agv hR.1 s (by simpa [AV.tags, AR.tags, A1.tag] using hs)⟩

/-! ### loads -/
theorem run_loadAt_one {P : Program} {w : World} {b o : Nat} {v : Value} (h : TyOne P t) (hc : w.cell? ⟨b, o, none⟩ = some v) : (Instr.loadAt t (.pointer (some ⟨b, o, none⟩))).run P w = .ok v w := by
  simp [Instr.loadAt, Instr.sureAddr, loadVar, run_isAgg_one h, hc]

theorem run_loadAt_str {P : Program} {w : World} {b o n : Nat} {us : List Value} (h : TyStr P t n) (hl : us.length = n) (hc : ∀ k u, us[k]? = some u → w.cell? ⟨b, o + k, none⟩ = some u) :
    (Instr.loadAt t (.pointer (some ⟨b, o, none⟩))).run P w = .ok (.agg us.toArray) w := by
  obtain ⟨h1, h2⟩ := run_isAgg_str (P := P) (w := w) h
  subst hl
  have hl : (loadCells ⟨b, o, none⟩ us.length).run P w = .ok us.toArray w := run_loadCells_list w ⟨b, o, none⟩ us fun k u hu => by
    have e : (⟨b, o, none⟩ : Addr).add k = ⟨b, o + k, none⟩ := by unfold Addr.add; split <;> simp_all
    rw [e]; exact hc k u hu
  simp [Instr.loadAt, Instr.sureAddr, loadVar, h1, h2, hl]

theorem opx_ld_imm {c : CV} {xs : List CV} [h : TyOne P t] : OpX P ⟨some d, .load t x, ty, pos, af, gd⟩ [(x, .imm (c :: xs))] [] [] [(d, .c c)] [] :=
  opx_val rfl fun cx S O V a w ρ Z hg hR _ => by
    obtain ⟨b, off, us, h1, h2, h3, h4⟩ := hg.ag hR.1
    match us, h3, h4 with
    | u :: us, h3, h4 =>
      have hc : w.cell? ⟨b, off, none⟩ = some u := by simpa using h4 0 u rfl
      exact ⟨u, by simp [execOp, h1, run_loadAt_one h hc], h3.1, by simp [AV.tags, AR.tags, A1.tag]⟩

theorem d1l_c {ρ : Nat → Value} {Z : Nat → Prop} {w : World} : ∀ {xs : List CV} {us : List Value}, DL Z w xs us → D1L ρ Z w (xs.map .c) us
  | [], [], _ => trivial
  | _ :: _, _ :: _, h => ⟨h.1, d1l_c h.2⟩
  | [], _ :: _, h => h.elim
  | _ :: _, [], h => h.elim

theorem tags_c (xs : List CV) : (AV.agg (xs.map A1.c)).tags = [] := by
  simp only [AV.tags, AR.tags]
  induction xs with
  | nil => rfl
  | cons x xs ih => simp [A1.tag]

theorem opx_lds_imm {xs : List CV} {n : Nat} {ys : List A1} [h : TyStr P t n] (hn : n ≤ xs.length) (hy : (xs.take n).map A1.c = ys) : OpX P ⟨some d, .load t x, ty, pos, af, gd⟩ [(x, .imm xs)] [] [] [(d, .agg ys)] [] :=
  opx_val rfl fun cx S O V a w ρ Z hg hR _ => by
    obtain ⟨b, off, us, h1, h2, h3, h4⟩ := hg.ag hR.1
    subst hy
    have h3' := h3.take n
    have hl : (us.take n).length = n := by rw [h3'.len]; simp; omega
    refine ⟨_, by simp only [execOp, h1]; rw [Sem.run_bind, run_loadAt_str h hl (fun k u hu => h4 k u (by rw [List.getElem?_take] at hu; split at hu; exact hu; cases hu))]; rfl, ⟨us.take n, rfl, d1l_c h3'⟩, ?_⟩
    intro s hs
    rw [tags_c] at hs
    cases hs
theorem opx_ld2_imm {a b : CV} {xs : List CV} [h : TyStr P t 2] : OpX P ⟨some d, .load t x, ty, pos, af, gd⟩ [(x, .imm (a :: b :: xs))] [] [] [(d, .agg [.c a, .c b])] [] := opx_lds_imm (by simp) (by simp)
theorem opx_ld3_imm {a b c : CV} {xs : List CV} [h : TyStr P t 3] : OpX P ⟨some d, .load t x, ty, pos, af, gd⟩ [(x, .imm (a :: b :: c :: xs))] [] [] [(d, .agg [.c a, .c b, .c c])] [] := opx_lds_imm (by simp) (by simp)
theorem opx_ld4_imm {a b c e : CV} {xs : List CV} [h : TyStr P t 4] : OpX P ⟨some d, .load t x, ty, pos, af, gd⟩ [(x, .imm (a :: b :: c :: e :: xs))] [] [] [(d, .agg [.c a, .c b, .c c, .c e])] [] := opx_lds_imm (by simp) (by simp)

theorem d1l_at {ρ : Nat → Value} {Z : Nat → Prop} {w : World} : ∀ {xs : List A1} {us : List Value} {i : Nat} {r : A1}, D1L ρ Z w xs us → xs[i]? = some r → ∃ v, us[i]? = some v ∧ D1 ρ Z w r v
  | x :: xs, u :: us, 0, r, h, hi => by cases hi; exact ⟨u, rfl, h.1⟩
  | x :: xs, u :: us, i + 1, r, h, hi => d1l_at (xs := xs) (us := us) (i := i) h.2 (by simpa using hi)
  | [], _, _, _, _, hi => by simp at hi
  | _ :: _, [], _, _, h, _ => h.elim

theorem opx_ld_box {u off : Nat} {e : TypeId} {cells : List A1} {c : A1} [h : TyOne P t] (hc : cells[off]? = some c) :
    OpX P ⟨some d, .load t x, ty, pos, af, gd⟩ [(x, .ref u off)] [(u, .box e cells)] [] [(d, .r (.one c))] [] :=
  opx_val rfl fun cx S O V a w ρ Z hg hR hO => by
    obtain ⟨g, o, h1, h2⟩ := hg.ag hR.1
    have ho := hg.obj u
    rw [hO.1] at ho
    obtain ⟨g', us, h3, h4, h5⟩ := ho
    rw [h3] at h1
    cases h1
    obtain ⟨v, h6, h7⟩ := d1l_at h5 hc
    rw [Nat.zero_add] at h2
    refine ⟨v, by simp [execOp, h2, run_loadAt_one h (b := g) (o := off) (v := v) (by rw [World.cell?, h4]; simpa using h6)], h7, fun s hs hv => ?_⟩
    refine (hg.virgin s hv).2.2 u ?_
    rw [hO.1]
    simp only [OB.tags, List.mem_flatMap]
    exact ⟨c, List.mem_of_getElem? hc, by simpa [AV.tags, AR.tags] using hs⟩

theorem D1L.take {ρ : Nat → Value} {Z : Nat → Prop} {w : World} (n : Nat) : ∀ {xs : List A1} {us : List Value}, D1L ρ Z w xs us → D1L ρ Z w (xs.take n) (us.take n) := by
  induction n with
  | zero => intro xs us h; simp [D1L]
  | succ n ih =>
    intro xs us h
    match xs, us, h with
    | [], [], _ => simp [D1L]
    | x :: xs, u :: us, h => exact ⟨h.1, ih h.2⟩
theorem D1L.drop {ρ : Nat → Value} {Z : Nat → Prop} {w : World} (n : Nat) : ∀ {xs : List A1} {us : List Value}, D1L ρ Z w xs us → D1L ρ Z w (xs.drop n) (us.drop n) := by
  induction n with
  | zero => intro xs us h; simpa using h
  | succ n ih =>
    intro xs us h
    match xs, us, h with
    | [], [], _ => simp [D1L]
    | x :: xs, u :: us, h => exact ih h.2
theorem D1L.append {ρ : Nat → Value} {Z : Nat → Prop} {w : World} : ∀ {xs : List A1} {us : List Value} {ys : List A1} {vs : List Value}, D1L ρ Z w xs us → D1L ρ Z w ys vs → D1L ρ Z w (xs ++ ys) (us ++ vs)
  | [], [], _, _, _, h => h
  | _ :: _, _ :: _, _, _, h, h2 => ⟨h.1, D1L.append h.2 h2⟩
  | [], _ :: _, _, _, h, _ => h.elim
  | _ :: _, [], _, _, h, _ => h.elim

theorem opx_lds_box {u off n : Nat} {e : TypeId} {cells ys : List A1} [h : TyStr P t n] (hn : off + n ≤ cells.length) (hy : (cells.drop off).take n = ys) :
    OpX P ⟨some d, .load t x, ty, pos, af, gd⟩ [(x, .ref u off)] [(u, .box e cells)] [] [(d, .agg ys)] [] :=
  opx_val rfl fun cx S O V a w ρ Z hg hR hO => by
    obtain ⟨g, o, h1, h2⟩ := hg.ag hR.1
    have ho := hg.obj u
    rw [hO.1] at ho
    obtain ⟨g', us, h3, h4, h5⟩ := ho
    rw [h3] at h1
    cases h1
    rw [Nat.zero_add] at h2
    have h6 := (D1L.drop off h5).take n
    have hl : ((us.drop off).take n).length = n := by rw [h6.len]; simp; omega
    subst hy
    refine ⟨_, by simp only [execOp, h2]; rw [Sem.run_bind, run_loadAt_str h hl (fun k u hu => by
      rw [List.getElem?_take] at hu
      split at hu
      · rw [List.getElem?_drop] at hu
        rw [World.cell?, h4]; simpa using hu
      · cases hu)]; rfl, ⟨_, rfl, h6⟩, fun s hs hv => ?_⟩
    refine (hg.virgin s hv).2.2 u ?_
    rw [hO.1]
    simp only [OB.tags, AV.tags, AR.tags, List.mem_flatMap] at hs ⊢
    obtain ⟨c, hc, hs⟩ := hs
    exact ⟨c, List.mem_of_mem_drop (List.mem_of_mem_take hc), hs⟩

theorem opx_ld2_box {u : Nat} {e : TypeId} {a b : A1} [h : TyStr P t 2] : OpX P ⟨some d, .load t x, ty, pos, af, gd⟩ [(x, .ref u 0)] [(u, .box e [a, b])] [] [(d, .agg [a, b])] [] := opx_lds_box (by simp) (by simp)
theorem opx_ld3_box {u : Nat} {e : TypeId} {a b c : A1} [h : TyStr P t 3] : OpX P ⟨some d, .load t x, ty, pos, af, gd⟩ [(x, .ref u 0)] [(u, .box e [a, b, c])] [] [(d, .agg [a, b, c])] [] := opx_lds_box (by simp) (by simp)
theorem opx_ld4_box {u : Nat} {e : TypeId} {a b c f : A1} [h : TyStr P t 4] : OpX P ⟨some d, .load t x, ty, pos, af, gd⟩ [(x, .ref u 0)] [(u, .box e [a, b, c, f])] [] [(d, .agg [a, b, c, f])] [] := opx_lds_box (by simp) (by simp)

/-- A row's element: where its cells lie. -/
theorem row_at {ρ : Nat → Value} {Z : Nat → Prop} {w : World} {u wd : Nat} {e : TypeId} {rows : List (List CV)} (h : DO ρ Z w u (.row wd e rows)) {i : Nat} {row : List CV} (hi : rows[i]? = some row) :
    ∃ g off us, Value.place (ρ u) = some ⟨g, off, none⟩ ∧ DL Z w row us ∧ ∀ j v, us[j]? = some v → w.cell? ⟨g, off + (i * wd + j), none⟩ = some v := by
  rcases h.2 with ⟨_, rfl⟩ | ⟨g, off, cap, cur, us, h1, h2, h3, h4, h5, h6, h7⟩
  · simp at hi
  · have hf := flat_at rows i row h.1 hi
    refine ⟨g, off, (us.drop (i * wd)).take wd, by rw [h1]; rfl, hf ▸ (h6.drop (i * wd)).take wd, fun j v hv => ?_⟩
    rw [List.getElem?_take] at hv
    split at hv
    · rw [List.getElem?_drop] at hv
      rw [World.cell?, h2]
      simpa using h7 _ v hv
    · cases hv

theorem opx_ld_el {u wd i k : Nat} {e : TypeId} {rows : List (List CV)} {row : List CV} {c : CV} [h : TyOne P t] (hi : rows[i]? = some row) (hk : row[k]? = some c) :
    OpX P ⟨some d, .load t x, ty, pos, af, gd⟩ [(x, .el u wd i k)] [(u, .row wd e rows)] [] [(d, .c c)] [] :=
  opx_val rfl fun cx S O V a w ρ Z hg hR hO => by
    obtain ⟨g, o, h1, h2⟩ := hg.ag hR.1
    have ho := hg.obj u
    rw [hO.1] at ho
    obtain ⟨g', off, us, h3, h4, h5⟩ := row_at ho hi
    rw [h3] at h1
    cases h1
    have hlt : k < us.length := by rw [h4.len]; exact (List.getElem?_eq_some_iff.1 hk).1
    have hx : row[k]'(by rw [← h4.len]; exact hlt) = c := (List.getElem?_eq_some_iff.1 hk).2
    refine ⟨us[k], by simp [execOp, h2, run_loadAt_one h (h5 k _ (List.getElem?_eq_getElem hlt))], hx ▸ h4.at k (by rw [← h4.len]; exact hlt) hlt, by simp [AV.tags, AR.tags, A1.tag]⟩

theorem opx_lds_el {u wd i n : Nat} {e : TypeId} {rows : List (List CV)} {row : List CV} {ys : List A1} [h : TyStr P t n] (hi : rows[i]? = some row) (hn : row.length = n) (hy : row.map A1.c = ys) :
    OpX P ⟨some d, .load t x, ty, pos, af, gd⟩ [(x, .el u wd i 0)] [(u, .row wd e rows)] [] [(d, .agg ys)] [] :=
  opx_val rfl fun cx S O V a w ρ Z hg hR hO => by
    obtain ⟨g, o, h1, h2⟩ := hg.ag hR.1
    have ho := hg.obj u
    rw [hO.1] at ho
    obtain ⟨g', off, us, h3, h4, h5⟩ := row_at ho hi
    rw [h3] at h1
    cases h1
    subst hy
    refine ⟨_, by simp only [execOp, h2]; rw [Sem.run_bind, run_loadAt_str h (h4.len.trans hn) (fun k u hu => by rw [Nat.add_assoc]; exact h5 k u hu)]; rfl, ⟨us, rfl, d1l_c h4⟩, ?_⟩
    intro s hs
    rw [tags_c] at hs
    cases hs
theorem opx_ia_sl2 {T e wd bytes : Nat} {zs : List Value} [h : SlT P T e wd bytes zs] {rows : List (List CV)} {row : List CV} {i : Int} {k : Nat} (hk : rows[k]? = some row) (hi : i = (k : Int)) :
    OpX P ⟨some d, .indexAddr T x y, ty, pos, af, gd⟩ [(x, .sl wd rows), (y, .i i)] [] [] [(d, .imm row)] [] := opx_ia_sl hi hk
theorem opx_ia_froz2 {T e wd bytes u : Nat} {zs : List Value} [h : SlT P T e wd bytes zs] {rows : List (List CV)} {row : List CV} {i : Int} {k : Nat} (hk : rows[k]? = some row) (hi : i = (k : Int)) :
    OpX P ⟨some d, .indexAddr T x y, ty, pos, af, gd⟩ [(x, .own u), (y, .i i)] [(u, .froz wd rows)] [] [(d, .imm row)] [] := opx_ia_froz hi hk
theorem opx_ia_own2 {T e wd bytes u e' : Nat} {zs : List Value} [h : SlT P T e wd bytes zs] {rows : List (List CV)} {i : Int} {k : Nat} (hk : k < rows.length) (hi : i = (k : Int)) :
    OpX P ⟨some d, .indexAddr T x y, ty, pos, af, gd⟩ [(x, .own u), (y, .i i)] [(u, .row wd e' rows)] [] [(d, .el u wd k 0)] [] := opx_ia_own hi hk
end
end Go.Proofs.YtllgddednlfhfaaDoor

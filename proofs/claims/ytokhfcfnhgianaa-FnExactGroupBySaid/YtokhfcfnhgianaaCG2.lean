/- Texts: Eng4 Eng5 -/
import Derived.Test.YtokhfcfnhgianaaCG1
/-
  Operations on memory: variables, structs, slices.
-/
namespace Go.Proofs.Ytokhfcfnhgianaa
open Go.RowKit
set_option linter.unusedVariables false

def oneTy (P : Program) (t : TypeId) : Bool :=
  (match P.underlying t with
  | some (.struct _) | some (.array ..) | none => false
  | _ => true) && ((P.info? t).map (·.size) == some 1)
class TyOne (P : Program) (t : TypeId) : Prop where
  ok : oneTy P t = true
def strTy (P : Program) (t : TypeId) : Option Nat :=
  match P.underlying t with
  | some (.struct _) => (P.info? t).map (·.size)
  | _ => none
class TyStr (P : Program) (t : TypeId) (n : outParam Nat) : Prop where
  ok : strTy P t = some n
def zeroTy (P : Program) (t : TypeId) : Option (List Value × Nat) := (P.info? t).bind fun i => i.zero.map fun z => (z.cells.toList, i.size)
class TyZ (P : Program) (t : TypeId) (zs : outParam (List Value)) : Prop where
  ok : zeroTy P t = some (zs, zs.length)
  one : zs.all (·.oneCell') = true
def fldTy (P : Program) (t : TypeId) (k : Nat) : Option Nat :=
  match P.underlying t with
  | some (.struct fs) => (fs[k]?).bind fun f => (P.info? f.type).bind fun j => if j.size = 0 then none else some f.offset
  | _ => none
class Fld (P : Program) (t : TypeId) (k : Nat) (off : outParam Nat) : Prop where
  ok : fldTy P t k = some off
def slTy (P : Program) (T : TypeId) : Option (TypeId × Nat × Nat × List Value) :=
  match P.underlying T with
  | some (.slice e) => (P.info? e).bind fun i => i.zero.map fun z => (e, i.size, i.bytes, z.cells.toList)
  | _ => none
class SlT (P : Program) (T : TypeId) (e wd bytes : outParam Nat) (zs : outParam (List Value)) : Prop where
  ok : slTy P T = some (e, wd, bytes, zs)
  len : zs.length = wd
  pos : 0 < wd
  one : zs.all (·.oneCell') = true

section
variable {P : Program} {w : World}

theorem run_isAgg_one {t : TypeId} (h : TyOne P t) : (isAgg t).run P w = .ok false w := by
  have h := h.ok
  unfold oneTy at h
  cases hu : P.underlying t with
  | none => rw [hu] at h; simp at h
  | some d =>
    rw [hu] at h
    cases d <;> first | (simp at h; done) | simp [isAgg, run_underlying hu]
theorem run_size_one {t : TypeId} (h : TyOne P t) : (sizeOf t).run P w = .ok 1 w := by
  have h := h.ok
  unfold oneTy at h
  rw [Bool.and_eq_true] at h
  cases hi : P.info? t with
  | none => rw [hi] at h; simp at h
  | some i =>
    rw [hi] at h
    simp at h
    simp [sizeOf, typeInfo, hi, h.2]

theorem run_isAgg_str {t : TypeId} {n : Nat} (h : TyStr P t n) : (isAgg t).run P w = .ok true w ∧ (sizeOf t).run P w = .ok n w := by
  have h := h.ok
  unfold strTy at h
  cases hu : P.underlying t with
  | none => rw [hu] at h; cases h
  | some d =>
    rw [hu] at h
    cases d <;> first | (cases h; done) | skip
    rename_i fs
    cases hi : P.info? t with
    | none => rw [hi] at h; cases h
    | some i =>
      rw [hi] at h
      cases h
      exact ⟨by simp [isAgg, run_underlying hu], by simp [sizeOf, typeInfo, hi]⟩

theorem run_zero {t : TypeId} {zs : List Value} (h : TyZ P t zs) : ∃ z : Value, (zeroValue t).run P w = .ok z w ∧ z.cells = zs.toArray ∧ (sizeOf t).run P w = .ok zs.length w := by
  have h := h.ok
  unfold zeroTy at h
  cases hi : P.info? t with
  | none => rw [hi] at h; cases h
  | some i =>
    rw [hi] at h
    cases hz : i.zero with
    | none => simp [hz] at h
    | some z =>
      simp [hz] at h
      refine ⟨z, by simp [zeroValue, typeInfo, hi, hz], ?_, by simp [sizeOf, typeInfo, hi, h.2]⟩
      rw [← h.1]

theorem sl_parts {T e wd bytes : Nat} {zs : List Value} (h : SlT P T e wd bytes zs) : ∃ (i : TypeInfo) (z : Value), P.underlying T = some (.slice e) ∧ P.info? e = some i ∧ i.zero = some z ∧ i.size = wd ∧ i.bytes = bytes ∧ z.cells = zs.toArray ∧ z.cells.size = wd := by
  have h1 := h.ok
  unfold slTy at h1
  cases hu : P.underlying T with
  | none => rw [hu] at h1; cases h1
  | some d =>
    rw [hu] at h1
    cases d <;> first | (cases h1; done) | skip
    rename_i e'
    dsimp only at h1
    cases hi : P.info? e' with
    | none => rw [hi] at h1; cases h1
    | some i =>
      rw [hi] at h1
      cases hz : i.zero with
      | none => simp [hz] at h1
      | some z =>
        simp [hz] at h1
        obtain ⟨rfl, h2, h3, h4⟩ := h1
        refine ⟨i, z, rfl, hi, hz, h2, h3, by rw [← h4], ?_⟩
        have := h.len
        rw [← h4] at this
        simpa using this

end

section
variable {P : Program} {R : List (Operand × AV)} {RO : List (Nat × OB)}
variable {d : Nat} {x y z : Operand} {t t' ty : TypeId} {pos : String} {af : Array Edge} {gd : Option (Nat × Bool)}

theorem run_fieldAt {P : Program} {w : World} {k off b o : Nat} (h : Fld P t k off) : (Instr.fieldAt t (.pointer (some ⟨b, o, none⟩)) k).run P w = .ok (.pointer (some ⟨b, o + off, none⟩)) w := by
  have h := h.ok
  unfold fldTy at h
  cases hu : P.underlying t with
  | none => rw [hu] at h; cases h
  | some d =>
    rw [hu] at h
    cases d <;> first | (cases h; done) | skip
    rename_i fs
    dsimp only at h
    cases hf : fs[k]? with
    | none => rw [hf] at h; cases h
    | some f =>
      rw [hf] at h
      cases hj : P.info? f.type with
      | none => simp [hj] at h
      | some j =>
        by_cases hs : j.size = 0
        · simp [hj, hs] at h
        · simp [hj, hs] at h
          subst h
          simp [Instr.fieldAt, run_underlying hu, hf, Instr.sureAddr, fieldPlace, sizeOf, typeInfo, hj, hs]
          unfold Addr.add
          split <;> simp_all

theorem opx_fa_ref {u off k o : Nat} [h : Fld P t k o] : OpX P ⟨some d, .fieldAddr t x k, ty, pos, af, gd⟩ [(x, .ref u off)] [] [] [(d, .ref u (off + o))] [] :=
  opx_val rfl fun cx S O V a w ρ Z hg hR _ => by
    obtain ⟨g, o', h1, h2⟩ := hg.ag hR.1
    refine ⟨.pointer (some ⟨g, o' + off + o, none⟩), by simp [execOp, h2, run_fieldAt h], ⟨g, o', h1, by rw [Nat.add_assoc]⟩, fun s hs => hg.agv hR.1 s (by simpa [AV.tags, AR.tags, A1.tag] using hs)⟩
theorem opx_fa_el {u wd i j k o : Nat} [h : Fld P t k o] : OpX P ⟨some d, .fieldAddr t x k, ty, pos, af, gd⟩ [(x, .el u wd i j)] [] [] [(d, .el u wd i (j + o))] [] :=
  opx_val rfl fun cx S O V a w ρ Z hg hR _ => by
    obtain ⟨g, o', h1, h2⟩ := hg.ag hR.1
    refine ⟨.pointer (some ⟨g, o' + (i * wd + j) + o, none⟩), by simp [execOp, h2, run_fieldAt h], ⟨g, o', h1, by simp [Nat.add_assoc]⟩, fun s hs => hg.agv hR.1 s (by simpa [AV.tags, AR.tags, A1.tag] using hs)⟩
theorem opx_fa_imm {xs ys : List CV} {k o : Nat} [h : Fld P t k o] (hy : xs.drop o = ys) : OpX P ⟨some d, .fieldAddr t x k, ty, pos, af, gd⟩ [(x, .imm xs)] [] [] [(d, .imm ys)] [] :=
  opx_val rfl fun cx S O V a w ρ Z hg hR _ => by
    obtain ⟨b, off, us, h1, h2, h3, h4⟩ := hg.ag hR.1
    subst hy
    refine ⟨.pointer (some ⟨b, off + o, none⟩), by simp [execOp, h1, run_fieldAt h], ⟨b, off + o, us.drop o, rfl, h2, h3.drop o, fun k u hu => ?_⟩, by simp [AV.tags, AR.tags, A1.tag]⟩
    rw [Nat.add_assoc]
    exact h4 _ u (by rw [← hu, List.getElem?_drop])

theorem opx_fa_imm0 {xs : List CV} {k : Nat} [h : Fld P t k 0] : OpX P ⟨some d, .fieldAddr t x k, ty, pos, af, gd⟩ [(x, .imm xs)] [] [] [(d, .imm xs)] [] := opx_fa_imm rfl
theorem opx_fa_imm1 {a : CV} {xs : List CV} {k : Nat} [h : Fld P t k 1] : OpX P ⟨some d, .fieldAddr t x k, ty, pos, af, gd⟩ [(x, .imm (a :: xs))] [] [] [(d, .imm xs)] [] := opx_fa_imm rfl
theorem flat_at {wd : Nat} : ∀ (rows : List (List CV)) (i : Nat) (row : List CV), (∀ r ∈ rows, r.length = wd) → rows[i]? = some row → (rows.flatten.drop (i * wd)).take wd = row
  | r :: rows, 0, row, hw, h => by
    have hr := hw r (.head _)
    cases h
    simp [← hr]
  | r :: rows, i + 1, row, hw, h => by
    have hr := hw r (.head _)
    have e : (i + 1) * wd = r.length + i * wd := by rw [hr, Nat.add_mul]; omega
    rw [List.flatten_cons, e, List.drop_append]
    simp only [Nat.add_sub_cancel_left]
    rw [List.drop_of_length_le (by omega), List.nil_append]
    exact flat_at rows i row (fun r hr => hw r (.tail _ hr)) (by simpa using h)
  | [], i, row, _, h => by simp at h

theorem run_indexAt {P : Program} {w : World} {T e wd bytes : Nat} {zs : List Value} (h : SlT P T e wd bytes zs) {b o n cap k : Nat} (hk : k < n) :
    (Instr.indexAt T (.slice (some ⟨b, o, none⟩) n cap) (.int .i64 (k : Int))).run P w = .ok (.pointer (some ⟨b, o + k * wd, none⟩)) w := by
  obtain ⟨i, z, hu, hi, _, hs, _⟩ := sl_parts h
  simp [Instr.indexAt, asIntOf, run_underlying hu, sizeOf, typeInfo, hi, hs, hk]
  unfold Addr.add
  split <;> simp_all

theorem DC.sl_at {Z : Nat → Prop} {w : World} {wd : Nat} {rows : List (List CV)} {v : Value} (h : DC Z w (.sl wd rows) v) {k : Nat} {row : List CV} (hk : rows[k]? = some row) :
    ∃ b o cap us, v = .slice (some ⟨b, o, none⟩) rows.length cap ∧ Z b ∧ DL Z w row us ∧ ∀ j u, us[j]? = some u → w.cell? ⟨b, o + k * wd + j, none⟩ = some u := by
  cases h with
  | nil => simp at hk
  | sl _ _ b off n cap us hn hw hz hc hm hl hcell hd =>
    subst hn
    have hDL : DL Z w rows.flatten us := DL.mk hl hd
    have hf := flat_at rows k row hw hk
    refine ⟨b, off, cap, (us.drop (k * wd)).take wd, rfl, hz, hf ▸ (hDL.drop (k * wd)).take wd, fun j u hu => ?_⟩
    rw [List.getElem?_take] at hu
    split at hu
    · rw [List.getElem?_drop] at hu
      rw [Nat.add_assoc]
      exact hcell _ u hu
    · cases hu

theorem opx_ia_sl {T e wd bytes : Nat} {zs : List Value} [h : SlT P T e wd bytes zs] {rows : List (List CV)} {row : List CV} {i : Int} {k : Nat} (hi : i = (k : Int)) (hk : rows[k]? = some row) :
    OpX P ⟨some d, .indexAddr T x y, ty, pos, af, gd⟩ [(x, .sl wd rows), (y, .i i)] [] [] [(d, .imm row)] [] :=
  opx_val rfl fun cx S O V a w ρ Z hg hR _ => by
    have h2 := da_raw (hg.ag hR.2.1)
    obtain ⟨b, o, cap, us, h3, h4, h5, h6⟩ := DC.sl_at (hg.ag hR.1) hk
    have hlt : k < rows.length := (List.getElem?_eq_some_iff.1 hk).1
    subst hi
    exact ⟨.pointer (some ⟨b, o + k * wd, none⟩), by simp [execOp, h2, h3, run_indexAt h hlt], ⟨b, o + k * wd, us, rfl, h4, h5, h6⟩, by simp [AV.tags, AR.tags, A1.tag]⟩

theorem opx_ia_own {T e wd bytes u e' : Nat} {zs : List Value} [h : SlT P T e wd bytes zs] {rows : List (List CV)} {i : Int} {k : Nat} (hi : i = (k : Int)) (hk : k < rows.length) :
    OpX P ⟨some d, .indexAddr T x y, ty, pos, af, gd⟩ [(x, .own u), (y, .i i)] [(u, .row wd e' rows)] [] [(d, .el u wd k 0)] [] :=
  opx_val rfl fun cx S O V a w ρ Z hg hR hO => by
    have h2 := da_raw (hg.ag hR.2.1)
    have h1 := (hg.ag hR.1).1
    have ho := hg.obj u
    rw [hO.1] at ho
    subst hi
    rcases ho.2 with ⟨_, rfl⟩ | ⟨g, off, cap, cur, us, h3, _⟩
    · simp at hk
    · exact ⟨.pointer (some ⟨g, off + k * wd, none⟩), by simp [execOp, h2, h1, h3, run_indexAt h hk], ⟨g, off, by rw [h3]; rfl, rfl⟩, fun s hs => hg.agv hR.1 s (by simpa [AV.tags, AR.tags, A1.tag] using hs)⟩

theorem run_loadAt_one {P : Program} {w : World} {b o : Nat} {v : Value} (h : TyOne P t) (hc : w.cell? ⟨b, o, none⟩ = some v) : (Instr.loadAt t (.pointer (some ⟨b, o, none⟩))).run P w = .ok v w := by
  simp [Instr.loadAt, Instr.sureAddr, loadVar, run_isAgg_one h, hc]

theorem run_loadAt_str {P : Program} {w : World} {b o n : Nat} {us : List Value} (h : TyStr P t n) (hl : us.length = n) (hc : ∀ k u, us[k]? = some u → w.cell? ⟨b, o + k, none⟩ = some u) :
    (Instr.loadAt t (.pointer (some ⟨b, o, none⟩))).run P w = .ok (.agg us.toArray) w := by
  obtain ⟨h1, h2⟩ := run_isAgg_str (P := P) (w := w) h
  subst hl
  have hl : (loadCells ⟨b, o, none⟩ us.length).run P w = .ok us.toArray w := run_loadCells_list w ⟨b, o, none⟩ us fun k u hu => by
    have e : (⟨b, o, none⟩ : Addr).add k = ⟨b, o + k, none⟩ := by unfold Addr.add; split <;> simp_all
    rw [e]; exact hc k u hu
  simp [Instr.loadAt, Instr.sureAddr, loadVar, h1, h2, hl]

theorem opx_ld_imm {c : CV} {xs : List CV} [h : TyOne P t] : OpX P ⟨some d, .load t x, ty, pos, af, gd⟩ [(x, .imm (c :: xs))] [] [] [(d, .c c)] [] :=
  opx_val rfl fun cx S O V a w ρ Z hg hR _ => by
    obtain ⟨b, off, us, h1, h2, h3, h4⟩ := hg.ag hR.1
    match us, h3, h4 with
    | u :: us, h3, h4 =>
      have hc : w.cell? ⟨b, off, none⟩ = some u := by simpa using h4 0 u rfl
      exact ⟨u, by simp [execOp, h1, run_loadAt_one h hc], h3.1, by simp [AV.tags, AR.tags, A1.tag]⟩

theorem d1l_c {ρ : Nat → Value} {Z : Nat → Prop} {w : World} : ∀ {xs : List CV} {us : List Value}, DL Z w xs us → D1L ρ Z w (xs.map .c) us
  | [], [], _ => trivial
  | _ :: _, _ :: _, h => ⟨h.1, d1l_c h.2⟩
  | [], _ :: _, h => h.elim
  | _ :: _, [], h => h.elim

theorem tags_c (xs : List CV) : (AV.agg (xs.map A1.c)).tags = [] := by
  simp only [AV.tags, AR.tags]
  induction xs with
  | nil => rfl
  | cons x xs ih => simp [A1.tag]

theorem opx_lds_imm {xs : List CV} {n : Nat} {ys : List A1} [h : TyStr P t n] (hn : n ≤ xs.length) (hy : (xs.take n).map A1.c = ys) : OpX P ⟨some d, .load t x, ty, pos, af, gd⟩ [(x, .imm xs)] [] [] [(d, .agg ys)] [] :=
  opx_val rfl fun cx S O V a w ρ Z hg hR _ => by
    obtain ⟨b, off, us, h1, h2, h3, h4⟩ := hg.ag hR.1
    subst hy
    have h3' := h3.take n
    have hl : (us.take n).length = n := by rw [h3'.len]; simp; omega
    refine ⟨_, by simp only [execOp, h1]; rw [Sem.run_bind, run_loadAt_str h hl (fun k u hu => h4 k u (by rw [List.getElem?_take] at hu; split at hu; exact hu; cases hu))]; rfl, ⟨us.take n, rfl, d1l_c h3'⟩, ?_⟩
    intro s hs
    rw [tags_c] at hs
    cases hs
theorem opx_ld2_imm {a b : CV} {xs : List CV} [h : TyStr P t 2] : OpX P ⟨some d, .load t x, ty, pos, af, gd⟩ [(x, .imm (a :: b :: xs))] [] [] [(d, .agg [.c a, .c b])] [] := opx_lds_imm (by simp) (by simp)
theorem d1l_at {ρ : Nat → Value} {Z : Nat → Prop} {w : World} : ∀ {xs : List A1} {us : List Value} {i : Nat} {r : A1}, D1L ρ Z w xs us → xs[i]? = some r → ∃ v, us[i]? = some v ∧ D1 ρ Z w r v
  | x :: xs, u :: us, 0, r, h, hi => by cases hi; exact ⟨u, rfl, h.1⟩
  | x :: xs, u :: us, i + 1, r, h, hi => d1l_at (xs := xs) (us := us) (i := i) h.2 (by simpa using hi)
  | [], _, _, _, _, hi => by simp at hi
  | _ :: _, [], _, _, h, _ => h.elim

theorem opx_ld_box {u off : Nat} {e : TypeId} {cells : List A1} {c : A1} [h : TyOne P t] (hc : cells[off]? = some c) :
    OpX P ⟨some d, .load t x, ty, pos, af, gd⟩ [(x, .ref u off)] [(u, .box e cells)] [] [(d, .r (.one c))] [] :=
  opx_val rfl fun cx S O V a w ρ Z hg hR hO => by
    obtain ⟨g, o, h1, h2⟩ := hg.ag hR.1
    have ho := hg.obj u
    rw [hO.1] at ho
    obtain ⟨g', us, h3, h4, h5⟩ := ho
    rw [h3] at h1
    cases h1
    obtain ⟨v, h6, h7⟩ := d1l_at h5 hc
    rw [Nat.zero_add] at h2
    refine ⟨v, by simp [execOp, h2, run_loadAt_one h (b := g) (o := off) (v := v) (by rw [World.cell?, h4]; simpa using h6)], h7, fun s hs hv => ?_⟩
    refine (hg.virgin s hv).2.2 u ?_
    rw [hO.1]
    simp only [OB.tags, List.mem_flatMap]
    exact ⟨c, List.mem_of_getElem? hc, by simpa [AV.tags, AR.tags] using hs⟩

theorem D1L.take {ρ : Nat → Value} {Z : Nat → Prop} {w : World} (n : Nat) : ∀ {xs : List A1} {us : List Value}, D1L ρ Z w xs us → D1L ρ Z w (xs.take n) (us.take n) := by
  induction n with
  | zero => intro xs us h; simp [D1L]
  | succ n ih =>
    intro xs us h
    match xs, us, h with
    | [], [], _ => simp [D1L]
    | x :: xs, u :: us, h => exact ⟨h.1, ih h.2⟩
theorem D1L.drop {ρ : Nat → Value} {Z : Nat → Prop} {w : World} (n : Nat) : ∀ {xs : List A1} {us : List Value}, D1L ρ Z w xs us → D1L ρ Z w (xs.drop n) (us.drop n) := by
  induction n with
  | zero => intro xs us h; simpa using h
  | succ n ih =>
    intro xs us h
    match xs, us, h with
    | [], [], _ => simp [D1L]
    | x :: xs, u :: us, h => exact ih h.2
theorem D1L.append {ρ : Nat → Value} {Z : Nat → Prop} {w : World} : ∀ {xs : List A1} {us : List Value} {ys : List A1} {vs : List Value}, D1L ρ Z w xs us → D1L ρ Z w ys vs → D1L ρ Z w (xs ++ ys) (us ++ vs)
  | [], [], _, _, _, h => h
  | _ :: _, _ :: _, _, _, h, h2 => ⟨h.1, D1L.append h.2 h2⟩
  | [], _ :: _, _, _, h, _ => h.elim
  | _ :: _, [], _, _, h, _ => h.elim

theorem opx_lds_box {u off n : Nat} {e : TypeId} {cells ys : List A1} [h : TyStr P t n] (hn : off + n ≤ cells.length) (hy : (cells.drop off).take n = ys) :
    OpX P ⟨some d, .load t x, ty, pos, af, gd⟩ [(x, .ref u off)] [(u, .box e cells)] [] [(d, .agg ys)] [] :=
  opx_val rfl fun cx S O V a w ρ Z hg hR hO => by
    obtain ⟨g, o, h1, h2⟩ := hg.ag hR.1
    have ho := hg.obj u
    rw [hO.1] at ho
    obtain ⟨g', us, h3, h4, h5⟩ := ho
    rw [h3] at h1
    cases h1
    rw [Nat.zero_add] at h2
    have h6 := (D1L.drop off h5).take n
    have hl : ((us.drop off).take n).length = n := by rw [h6.len]; simp; omega
    subst hy
    refine ⟨_, by simp only [execOp, h2]; rw [Sem.run_bind, run_loadAt_str h hl (fun k u hu => by
      rw [List.getElem?_take] at hu
      split at hu
      · rw [List.getElem?_drop] at hu
        rw [World.cell?, h4]; simpa using hu
      · cases hu)]; rfl, ⟨_, rfl, h6⟩, fun s hs hv => ?_⟩
    refine (hg.virgin s hv).2.2 u ?_
    rw [hO.1]
    simp only [OB.tags, AV.tags, AR.tags, List.mem_flatMap] at hs ⊢
    obtain ⟨c, hc, hs⟩ := hs
    exact ⟨c, List.mem_of_mem_drop (List.mem_of_mem_take hc), hs⟩

theorem opx_ld2_box {u : Nat} {e : TypeId} {a b : A1} [h : TyStr P t 2] : OpX P ⟨some d, .load t x, ty, pos, af, gd⟩ [(x, .ref u 0)] [(u, .box e [a, b])] [] [(d, .agg [a, b])] [] := opx_lds_box (by simp) (by simp)
/-- A row's element: where its cells lie. -/
theorem row_at {ρ : Nat → Value} {Z : Nat → Prop} {w : World} {u wd : Nat} {e : TypeId} {rows : List (List CV)} (h : DO ρ Z w u (.row wd e rows)) {i : Nat} {row : List CV} (hi : rows[i]? = some row) :
    ∃ g off us, Value.place (ρ u) = some ⟨g, off, none⟩ ∧ DL Z w row us ∧ ∀ j v, us[j]? = some v → w.cell? ⟨g, off + (i * wd + j), none⟩ = some v := by
  rcases h.2 with ⟨_, rfl⟩ | ⟨g, off, cap, cur, us, h1, h2, h3, h4, h5, h6, h7⟩
  · simp at hi
  · have hf := flat_at rows i row h.1 hi
    refine ⟨g, off, (us.drop (i * wd)).take wd, by rw [h1]; rfl, hf ▸ (h6.drop (i * wd)).take wd, fun j v hv => ?_⟩
    rw [List.getElem?_take] at hv
    split at hv
    · rw [List.getElem?_drop] at hv
      rw [World.cell?, h2]
      simpa using h7 _ v hv
    · cases hv

theorem opx_ld_el {u wd i k : Nat} {e : TypeId} {rows : List (List CV)} {row : List CV} {c : CV} [h : TyOne P t] (hi : rows[i]? = some row) (hk : row[k]? = some c) :
    OpX P ⟨some d, .load t x, ty, pos, af, gd⟩ [(x, .el u wd i k)] [(u, .row wd e rows)] [] [(d, .c c)] [] :=
  opx_val rfl fun cx S O V a w ρ Z hg hR hO => by
    obtain ⟨g, o, h1, h2⟩ := hg.ag hR.1
    have ho := hg.obj u
    rw [hO.1] at ho
    obtain ⟨g', off, us, h3, h4, h5⟩ := row_at ho hi
    rw [h3] at h1
    cases h1
    have hlt : k < us.length := by rw [h4.len]; exact (List.getElem?_eq_some_iff.1 hk).1
    have hx : row[k]'(by rw [← h4.len]; exact hlt) = c := (List.getElem?_eq_some_iff.1 hk).2
    refine ⟨us[k], by simp [execOp, h2, run_loadAt_one h (h5 k _ (List.getElem?_eq_getElem hlt))], hx ▸ h4.at k (by rw [← h4.len]; exact hlt) hlt, by simp [AV.tags, AR.tags, A1.tag]⟩

theorem opx_ia_sl2 {T e wd bytes : Nat} {zs : List Value} [h : SlT P T e wd bytes zs] {rows : List (List CV)} {row : List CV} {i : Int} {k : Nat} (hk : rows[k]? = some row) (hi : i = (k : Int)) :
    OpX P ⟨some d, .indexAddr T x y, ty, pos, af, gd⟩ [(x, .sl wd rows), (y, .i i)] [] [] [(d, .imm row)] [] := opx_ia_sl hi hk
theorem opx_ia_own2 {T e wd bytes u e' : Nat} {zs : List Value} [h : SlT P T e wd bytes zs] {rows : List (List CV)} {i : Int} {k : Nat} (hk : k < rows.length) (hi : i = (k : Int)) :
    OpX P ⟨some d, .indexAddr T x y, ty, pos, af, gd⟩ [(x, .own u), (y, .i i)] [(u, .row wd e' rows)] [] [(d, .el u wd k 0)] [] := opx_ia_own hi hk
end
end Go.Proofs.Ytokhfcfnhgianaa
/-
  Operations that write memory or make it.
-/
namespace Go.Proofs.Ytokhfcfnhgianaa
open Go.RowKit
set_option linter.unusedVariables false
set_option linter.unusedSimpArgs false

theorem grownBy_setRow (w : World) (g : Nat) (cs : Array Value) : w.grownBy (w.setRow g cs) (some g) :=
  ⟨rfl, rfl, rfl, by simp, fun k _ hk => setRow_other w g k cs (fun e => hk (by rw [e]))⟩

section
variable {P : Program} {R : List (Operand × AV)} {RO : List (Nat × OB)}
variable {d : Nat} {x y z : Operand} {t t' ty : TypeId} {pos : String} {af : Array Edge} {gd : Option (Nat × Bool)}

/-- An object's content turns; its slot-values stay. -/
theorem opx_set {o : Oper} {u : Nat} {ob : OB} {U : List (Nat × AV)} (hd : o.dst = none) (hU : U = [])
    (H : ∀ (cx : Cx) (S : Nat → AV) (O : Nat → OB) (V : Nat → Prop) (a : Act) (w : World) (ρ : Nat → Value) (Z : Nat → Prop), Good cx S O V a w ρ Z → AgL S R → OgL O RO →
      ∃ w', (execOp a.eval o).run P w = .ok .skip w' ∧ (O u).live = true ∧ w.grownBy w' (blk (ρ u)) ∧ DO ρ Z w' u ob ∧ ∀ s ∈ ob.tags, ¬ V s) : OpX P o R RO [] U [(u, ob)] := by
  intro cx S O V a w hR hO _ _ ⟨ρ, Z, hg⟩ K Q hK
  obtain ⟨w', hrun, hl, hgr, hob, ht⟩ := H cx S O V a w ρ Z hg hR hO
  unfold Oper.wp
  rw [hrun]
  show K (a.put o.dst undef) w'
  rw [hd]
  subst hU
  exact hK _ _ ⟨ρ, Z, (hg.set hl hgr hob ht).weak fun s hs => hs.1⟩

theorem run_storeAt {w : World} {g o : Nat} {e : TypeId} {cur : Array Value} {v : Value} (hg : w.heap[g]? = some (.cells cur e (0, 0)))
    (hs : (sizeOf t).run P w = .ok v.cells.size w) (h1 : ∀ u ∈ v.cells.toList, u.oneCell' = true) (hfit : o + v.cells.size ≤ cur.size) :
    (Instr.storeAt t (.pointer (some ⟨g, o, none⟩)) v).run P w = .ok () (w.setRow g (cur.toList.take o ++ v.cells.toList ++ cur.toList.drop (o + v.cells.size)).toArray) := by
  have hst := run_storeCells_at P g o e v.cells.toList 0 cur w hg (by simpa using hfit) h1
  simp only [Nat.add_zero, Array.length_toList] at hst
  simp [Instr.storeAt, Instr.sureAddr, storeVar, hs, hst]

def splice {α : Type} (l : List α) (o : Nat) (m : List α) : List α := l.take o ++ m ++ l.drop (o + m.length)

/-- Store the cells xs into a box. -/
theorem opx_st_box {u off : Nat} {e : TypeId} {cells xs cells' : List A1} {av : AV}
    (H : ∀ (ρ : Nat → Value) (Z : Nat → Prop) (w : World) (v : Value), DA ρ Z w av v → (sizeOf t).run P w = .ok xs.length w ∧ ∃ us, v.cells = us.toArray ∧ D1L ρ Z w xs us)
    (htags : av.tags = xs.flatMap (·.tag.toList)) (hfit : off + xs.length ≤ cells.length) (hc : cells' = splice cells off xs) :
    OpX P ⟨none, .store t x y, ty, pos, af, gd⟩ [(x, .ref u off), (y, av)] [(u, .box e cells)] [] [] [(u, .box e cells')] :=
  opx_set rfl rfl fun cx S O V a w ρ Z hg hR hO => by
    obtain ⟨g, o, h1, h2⟩ := hg.ag hR.1
    have ho := hg.obj u
    rw [hO.1] at ho
    obtain ⟨g', us, h3, h4, h5⟩ := ho
    rw [h3] at h1
    cases h1
    rw [Nat.zero_add] at h2
    obtain ⟨hs, us', h6, h7⟩ := H ρ Z w _ (hg.ag hR.2.1)
    have hl : us'.length = xs.length := h7.len
    have hv : (a.eval y).cells.size = xs.length := by rw [h6]; simpa using hl
    have hr := run_storeAt (P := P) (t := t) (v := a.eval y) (o := off) h4 (by rw [hv]; exact hs) (by rw [h6]; simpa using h7.one) (by rw [hv]; simp; rw [h5.len]; omega)
    refine ⟨_, by simp only [execOp, h2]; rw [Sem.run_bind, hr]; rfl, by rw [hO.1]; rfl, by rw [h3]; exact grownBy_setRow _ _ _, ?_, ?_⟩
    · refine ⟨g, us.take off ++ us' ++ us.drop (off + us'.length), h3, ?_, ?_⟩
      · rw [setRow_heap w g _ _ e (0, 0) h4, h6]
        simp
      · subst hc
        have hsame : Same Z w (w.setRow g ((us.toArray.toList.take off ++ (a.eval y).cells.toList ++ us.toArray.toList.drop (off + (a.eval y).cells.size)).toArray)) := fun k hk =>
          setRow_other _ _ _ _ (fun e => (hg.out u g (by rw [hO.1]; rfl) (by rw [h3]; rfl)).1 (e ▸ hk))
        rw [hl]
        exact ((D1L.append (D1L.append (h5.take off) h7) (h5.drop (off + xs.length)))).mono (fun _ h => h) hsame (fun _ _ _ _ => rfl)
    · subst hc
      intro s hs hv
      simp only [OB.tags, splice, List.flatMap_append, List.mem_append] at hs
      rcases hs with (hs | hs) | hs
      · refine (hg.virgin s hv).2.2 u ?_
        rw [hO.1]
        simp only [OB.tags, List.mem_flatMap] at hs ⊢
        obtain ⟨c, hc, hs⟩ := hs
        exact ⟨c, List.mem_of_mem_take hc, hs⟩
      · exact hg.agv hR.2.1 s (by rw [htags]; exact hs) hv
      · refine (hg.virgin s hv).2.2 u ?_
        rw [hO.1]
        simp only [OB.tags, List.mem_flatMap] at hs ⊢
        obtain ⟨c, hc, hs⟩ := hs
        exact ⟨c, List.mem_of_mem_drop hc, hs⟩

theorem cells_one {v : Value} (h : v.oneCell' = true) : v.cells = #[v] := by cases v <;> first | rfl | cases h

theorem opx_st1_box {u off : Nat} {e : TypeId} {cells : List A1} {c : A1} [h : TyOne P t] (hfit : Nat.blt off cells.length = true) :
    OpX P ⟨none, .store t x y, ty, pos, af, gd⟩ [(x, .ref u off), (y, .r (.one c))] [(u, .box e cells)] [] [] [(u, .box e (splice cells off [c]))] :=
  opx_st_box (xs := [c]) (fun ρ Z w v hv => ⟨run_size_one h, [v], cells_one (D1.one hv), ⟨hv, trivial⟩⟩) (by simp [AV.tags, AR.tags]) (blt_lt hfit) rfl
theorem opx_sts_box {u off n : Nat} {e : TypeId} {cells xs : List A1} [h : TyStr P t n] (hn : xs.length = n) (hfit : Nat.ble (off + xs.length) cells.length = true) :
    OpX P ⟨none, .store t x y, ty, pos, af, gd⟩ [(x, .ref u off), (y, .agg xs)] [(u, .box e cells)] [] [] [(u, .box e (splice cells off xs))] :=
  opx_st_box (xs := xs) (fun ρ Z w v hv => by
    obtain ⟨us, rfl, h2⟩ := hv
    exact ⟨by rw [hn]; exact (run_isAgg_str h).2, us, rfl, h2⟩) rfl (by simpa using hfit) rfl

theorem d1l_raw {ρ : Nat → Value} {Z : Nat → Prop} {w : World} : ∀ {zs : List Value}, zs.all (·.oneCell') = true → D1L ρ Z w (zs.map fun v => .c (.raw v)) zs
  | [], _ => trivial
  | z :: zs, h => by
    simp only [List.all_cons, Bool.and_eq_true] at h
    exact ⟨DC.raw z h.1, d1l_raw h.2⟩

theorem opx_alloc {u : Nat} {zs : List Value} [h : TyZ P t zs] : OpX P ⟨some d, .alloc t, ty, pos, af, gd⟩ [] [] [u] [(d, .ref u 0)] [(u, .box t (zs.map fun v => .c (.raw v)))] :=
  opx_new rfl (.inr rfl) fun cx S O V a w ρ Z hg hR hO hV => by
    obtain ⟨z, hz, hc, _⟩ := run_zero (P := P) (w := w) h
    refine ⟨.pointer (some ⟨w.heap.size, 0, none⟩), w.alloc (.cells z.cells t), ?_, World.grownBy_alloc w _ none, ⟨w.heap.size, zs, by simp, by rw [hc]; exact heap_alloc_new w _, d1l_raw h.one⟩, fun g hb => by cases hb; exact Nat.le_refl _, ?_, rfl, fun _ => ⟨_, rfl⟩⟩
    · simp [execOp, Instr.alloc, hz, newVar, newRow]
    · intro s hs
      have : (zs.map fun v => A1.c (.raw v)).flatMap (·.tag.toList) = [] := by simp [A1.tag]
      rw [OB.tags, this] at hs
      cases hs

theorem opx_box1 {u : Nat} {c : A1} [h : TyOne P t] : OpX P ⟨some d, .box t x, ty, pos, af, gd⟩ [(x, .r (.one c))] [] [u] [(d, .ref u 0)] [(u, .box t [c])] :=
  opx_new rfl (.inr rfl) fun cx S O V a w ρ Z hg hR hO hV => by
    have hd1 : D1 ρ Z w c (a.eval x) := hg.ag hR.1
    have hfr : ∀ t' , c.tag = some t' → t' ≠ u := fun t' ht' e => hg.agv hR.1 t' (by simp [AV.tags, AR.tags, ht']) (e ▸ hV)
    refine ⟨.pointer (some ⟨w.heap.size, 0, none⟩), w.alloc (.cells (a.eval x).cells t), ?_, World.grownBy_alloc w _ none, ⟨w.heap.size, [a.eval x], by simp, by rw [cells_one hd1.one]; exact heap_alloc_new w _, ?_, trivial⟩, fun g hb => by cases hb; exact Nat.le_refl _, ?_, rfl, fun _ => ⟨_, rfl⟩⟩
    · simp [execOp, Instr.box, newVar, newRow]
    · exact D1.mono (fun _ h => h) (fun g hz => (World.grownBy_alloc w _ none).block g (hg.zlt g hz) (by simp)) (fun t' ht' => if_neg (hfr t' ht')) hd1
    · intro s hs hv
      simp [OB.tags] at hs
      exact hg.agv hR.1 s (by simp [AV.tags, AR.tags, hs]) hv

theorem opx_boxs {u : Nat} {xs : List A1} : OpX P ⟨some d, .box t x, ty, pos, af, gd⟩ [(x, .agg xs)] [] [u] [(d, .ref u 0)] [(u, .box t xs)] :=
  opx_new rfl (.inr rfl) fun cx S O V a w ρ Z hg hR hO hV => by
    obtain ⟨us, h1, h2⟩ := hg.ag hR.1
    have hfr : ∀ c ∈ xs, ∀ t' , c.tag = some t' → t' ≠ u := fun c hc t' ht' e => hg.agv hR.1 t' (by simp only [AV.tags, AR.tags, List.mem_flatMap]; exact ⟨c, hc, by simp [ht']⟩) (e ▸ hV)
    refine ⟨.pointer (some ⟨w.heap.size, 0, none⟩), w.alloc (.cells (a.eval x).cells t), ?_, World.grownBy_alloc w _ none, ⟨w.heap.size, us, by simp, by rw [h1]; exact heap_alloc_new w _, ?_⟩, fun g hb => by cases hb; exact Nat.le_refl _, ?_, rfl, fun _ => ⟨_, rfl⟩⟩
    · simp [execOp, Instr.box, newVar, newRow]
    · exact D1L.mono (fun _ h => h) (fun g hz => (World.grownBy_alloc w _ none).block g (hg.zlt g hz) (by simp)) (fun c hc t' ht' => if_neg (hfr c hc t' ht')) h2
    · intro s hs hv
      exact hg.agv hR.1 s hs hv

def afill (place : Nat → Option (Nat × Nat)) (cells : List A1) : List (Nat × List A1) → Option (List A1)
  | [] => some cells
  | (i, v) :: rest =>
    match place i with
    | none => none
    | some (off, size) => cond (Nat.beq v.length size && Nat.ble (off + v.length) cells.length) (afill place (splice cells off v) rest) none

theorem foldl_set (us : List Value) : ∀ (cs : Array Value) (off j : Nat), (us.zipIdx j).foldl (fun cs (c, k) => cs.setIfInBounds (off + k) c) cs = (splice cs.toList (off + j) us).toArray ∨ cs.size < off + j + us.length := by
  induction us with
  | nil => intro cs off j; left; simp [splice]
  | cons u us ih =>
    intro cs off j
    by_cases hl : off + j + (u :: us).length ≤ cs.size
    · left
      rcases ih (cs.setIfInBounds (off + j) u) off (j + 1) with h | h
      · rw [List.zipIdx_cons, List.foldl_cons, h]
        congr 1
        simp only [splice, Array.toList_setIfInBounds]
        have hlt : off + j < cs.toList.length := by simp at hl ⊢; omega
        apply List.ext_getElem?
        intro k
        simp only [List.getElem?_append, List.getElem?_take, List.getElem?_drop, List.getElem?_set, List.length_append, List.length_take, List.length_set, List.length_cons, List.length_drop]
        simp only [List.length_cons] at hl
        have hcl : cs.toList.length = cs.size := by simp
        by_cases h1 : k < off + j
        · have a1 : k < min (off + (j + 1)) cs.toList.length := by omega
          have a2 : k < min (off + j) cs.toList.length := by omega
          have a3 : ¬ off + j = k := by omega
          have a4 : k < off + (j + 1) := by omega
          simp only [hcl] at a1 a2 ⊢
          have a5 : k < min (off + (j + 1)) cs.size + us.length := by omega
          have a6 : k < min (off + j) cs.size + (us.length + 1) := by omega
          rw [if_pos a5, if_pos a1, if_pos a4, if_neg a3, if_pos a6, if_pos a2, if_pos h1]
        · by_cases h2 : k = off + j
          · subst h2
            simp only [hcl]
            have a1 : off + j < min (off + (j + 1)) cs.size := by omega
            have a2 : ¬ off + j < min (off + j) cs.size := by omega
            have a4 : off + j < off + (j + 1) := by omega
            have a5 : off + j < min (off + (j + 1)) cs.size + us.length := by omega
            have a6 : off + j < min (off + j) cs.size + (us.length + 1) := by omega
            have a7 : off + j - min (off + j) cs.size = 0 := by omega
            have a8 : off + j < cs.size := by omega
            rw [if_pos a5, if_pos a1, if_pos a4, if_pos a6, if_neg a2, a7]
            simp [a8]
          · simp only [hcl]
            have a1 : ¬ k < min (off + (j + 1)) cs.size := by omega
            have a2 : ¬ k < min (off + j) cs.size := by omega
            have e1 : min (off + (j + 1)) cs.size = off + (j + 1) := by omega
            have e2 : min (off + j) cs.size = off + j := by omega
            by_cases h3 : k < off + (j + 1) + us.length
            · have a5 : k < min (off + (j + 1)) cs.size + us.length := by omega
              have a6 : k < min (off + j) cs.size + (us.length + 1) := by omega
              rw [if_pos a5, if_neg a1, if_pos a6, if_neg a2, e1, e2]
              have : k - (off + j) = (k - (off + (j + 1))) + 1 := by omega
              rw [this, List.getElem?_cons_succ]
            · have a5 : ¬ k < min (off + (j + 1)) cs.size + us.length := by omega
              have a6 : ¬ k < min (off + j) cs.size + (us.length + 1) := by omega
              rw [if_neg a5, if_neg a6, e1, e2]
              have b1 : ¬ off + j = off + (j + 1) + us.length + (k - (off + (j + 1) + us.length)) := by omega
              rw [if_neg b1]
              congr 1
              omega
      · simp at h hl; omega
    · right; omega

theorem splice_d1l {ρ : Nat → Value} {Z : Nat → Prop} {w : World} {xs ys : List A1} {us vs : List Value} (h : D1L ρ Z w xs us) (o : Nat) (h2 : D1L ρ Z w ys vs) : D1L ρ Z w (splice xs o ys) (splice us o vs) := by
  unfold splice
  rw [h2.len]
  exact D1L.append (D1L.append (h.take o) h2) (h.drop _)

theorem fill_of {ρ : Nat → Value} {Z : Nat → Prop} {w : World} (place : Nat → Option (Nat × Nat)) : ∀ (parts : List (Nat × List A1)) (vs : List (Nat × Value)) (cells res : List A1) (us : List Value),
    D1L ρ Z w cells us → parts.length = vs.length → (∀ k (h : k < parts.length) (h' : k < vs.length), parts[k].1 = vs[k].1 ∧ ∃ u, vs[k].2.cells = u.toArray ∧ D1L ρ Z w parts[k].2 u) →
    afill place cells parts = some res → ∃ u, Instr.fill place us.toArray vs = some u.toArray ∧ D1L ρ Z w res u
  | [], [], cells, res, us, h, _, _, hf => by cases hf; exact ⟨us, rfl, h⟩
  | (i, p) :: parts, (j, v) :: vs, cells, res, us, h, hl, hp, hf => by
    obtain ⟨h1, u, h2, h3⟩ := hp 0 (by simp) (by simp)
    simp only [List.getElem_cons_zero] at h1 h2 h3
    subst h1
    simp only [afill] at hf
    cases hpl : place i with
    | none => rw [hpl] at hf; cases hf
    | some os =>
      obtain ⟨off, size⟩ := os
      rw [hpl] at hf
      dsimp only at hf
      cases hc : (Nat.beq p.length size && Nat.ble (off + p.length) cells.length) with
      | false => rw [hc] at hf; cases hf
      | true =>
        rw [hc] at hf
        rw [Bool.and_eq_true] at hc
        have e1 : p.length = size := Nat.eq_of_beq_eq_true hc.1
        have e2 : off + p.length ≤ cells.length := Nat.le_of_ble_eq_true hc.2
        have hu : u.length = p.length := h3.len
        have hus : us.length = cells.length := h.len
        have hsplice := splice_d1l h off h3
        obtain ⟨u', h4, h5⟩ := fill_of place parts vs (splice cells off p) res (splice us off u) hsplice (by simpa using hl) (fun k hk hk' => by
          have := hp (k + 1) (by simpa using hk) (by simpa using hk')
          simpa using this) hf
        refine ⟨u', ?_, h5⟩
        have hsz : v.cells.size = u.length := by rw [h2]; simp
        have g1 : ¬ (v.cells.size ≠ size ∨ us.toArray.size < off + v.cells.size) := by
          rw [hsz]; simp; omega
        have hfold : v.cells.zipIdx.foldl (fun cs (c, j) => cs.setIfInBounds (off + j) c) us.toArray = (splice us off u).toArray := by
          rw [h2]
          have := foldl_set u us.toArray off 0
          rcases this with h6 | h6
          · have e3 : u.toArray.zipIdx.foldl (fun cs (c, j) => cs.setIfInBounds (off + j) c) us.toArray = (u.zipIdx 0).foldl (fun cs (c, j) => cs.setIfInBounds (off + j) c) us.toArray := by
              rw [← Array.foldl_toList, Array.toList_zipIdx]
            rw [e3, h6]
            simp
          · simp at h6; omega
        simp only [Instr.fill, hpl]
        rw [if_neg (by simpa using g1), hfold]
        exact h4
  | [], _ :: _, _, _, _, _, hl, _, _ => by simp at hl
  | _ :: _, [], _, _, _, _, hl, _, _ => by simp at hl

def bldTy (P : Program) (t : TypeId) : Option (List (Nat × Nat) × List Value) :=
  match P.info? t, P.underlying t with
  | some it, some (.struct fs) =>
    match it.zero, fs.toList.mapM (fun f => (P.info? f.type).map fun i => (f.offset, i.size)) with
    | some z, some places => some (places, z.cells.toList)
    | _, _ => none
  | _, _ => none
class BldT (P : Program) (t : TypeId) (pl : outParam (List (Nat × Nat))) (zs : outParam (List Value)) : Prop where
  ok : bldTy P t = some (pl, zs)
  one : zs.all (·.oneCell') = true

/-- The cells of a part. -/
def AR.cells : AR → List A1
  | .one x => [x]
  | .agg xs => xs

theorem dr_cells {ρ : Nat → Value} {Z : Nat → Prop} {w : World} {r : AR} {v : Value} (h : DR ρ Z w r v) : ∃ u, v.cells = u.toArray ∧ D1L ρ Z w r.cells u := by
  cases r with
  | one x => exact ⟨[v], cells_one (D1.one h), h, trivial⟩
  | agg xs => obtain ⟨us, rfl, h2⟩ := h; exact ⟨us, rfl, h2⟩

theorem dr_tags (r : AR) : r.tags = r.cells.flatMap (·.tag.toList) := by
  cases r with
  | one x => simp [AR.tags, AR.cells]
  | agg xs => rfl

theorem splice_tags {xs ys : List A1} {o : Nat} {s : Nat} (h : s ∈ (splice xs o ys).flatMap (·.tag.toList)) : s ∈ xs.flatMap (·.tag.toList) ∨ s ∈ ys.flatMap (·.tag.toList) := by
  simp only [splice, List.flatMap_append, List.mem_append, List.mem_flatMap] at h ⊢
  rcases h with (⟨c, hc, h⟩ | h) | ⟨c, hc, h⟩
  · exact .inl ⟨c, List.mem_of_mem_take hc, h⟩
  · exact .inr h
  · exact .inl ⟨c, List.mem_of_mem_drop hc, h⟩

theorem afill_tags (place : Nat → Option (Nat × Nat)) : ∀ (parts : List (Nat × List A1)) (cells res : List A1), afill place cells parts = some res → ∀ s ∈ res.flatMap (·.tag.toList), s ∈ cells.flatMap (·.tag.toList) ∨ ∃ p ∈ parts, s ∈ p.2.flatMap (·.tag.toList)
  | [], cells, res, h, s, hs => by cases h; exact .inl hs
  | (i, v) :: parts, cells, res, h, s, hs => by
    simp only [afill] at h
    cases hp : place i with
    | none => rw [hp] at h; cases h
    | some os =>
      obtain ⟨off, size⟩ := os
      rw [hp] at h
      dsimp only at h
      cases hc : (Nat.beq v.length size && Nat.ble (off + v.length) cells.length) with
      | false => rw [hc] at h; cases h
      | true =>
        rw [hc] at h
        rcases afill_tags place parts _ res h s hs with h1 | ⟨p, hp, h1⟩
        · rcases splice_tags h1 with h1 | h1
          · exact .inl h1
          · exact .inr ⟨(i, v), .head _, h1⟩
        · exact .inr ⟨p, .tail _ hp, h1⟩

def rdParts : List (Nat × Operand) → List AR → List (Operand × AV)
  | (_, x) :: ps, r :: rs => (x, .r r) :: rdParts ps rs
  | _, _ => []

theorem rdParts_at {S : Nat → AV} : ∀ {ps : List (Nat × Operand)} {rs : List AR}, AgL S (rdParts ps rs) → ∀ (k : Nat) (h : k < ps.length) (h' : k < rs.length), Ag S ps[k].2 (.r rs[k])
  | p :: ps, r :: rs, h, 0, _, _ => h.1
  | p :: ps, r :: rs, h, k + 1, h1, h2 => rdParts_at (ps := ps) (rs := rs) h.2 k (by simpa using h1) (by simpa using h2)

theorem opx_build {ps : List (Nat × Operand)} {rs : List AR} {pl : List (Nat × Nat)} {zs : List Value} {res : List A1} [h : BldT P t pl zs] (hl : ps.length = rs.length)
    (hf : afill (pl[·]?) (zs.map fun v => .c (.raw v)) ((ps.map (·.1)).zip (rs.map (·.cells))) = some res) :
    OpX P ⟨some d, .build t ps.toArray, ty, pos, af, gd⟩ (rdParts ps rs) [] [] [(d, .agg res)] [] :=
  opx_val rfl fun cx S O V a w ρ Z hg hR _ => by
    obtain ⟨u, h1, h2⟩ := fill_of (ρ := ρ) (Z := Z) (w := w) (pl[·]?) ((ps.map (·.1)).zip (rs.map (·.cells))) (ps.map fun (i, x) => (i, a.eval x)) _ res zs (d1l_raw h.one) (by simp [hl])
      (fun k hk hk' => by
        simp only [List.length_zip, List.length_map] at hk
        have h3 := rdParts_at hR k (by omega) (by omega)
        have h4 := dr_cells (hg.ag h3)
        simp only [List.getElem_zip, List.getElem_map]
        exact ⟨trivial, h4⟩) hf
    have hok := h.ok
    have hb : P.built t (ps.map fun (i, x) => (i, a.eval x)) = some u.toArray := by
      unfold bldTy at hok
      unfold Program.built
      cases hi : P.info? t with
      | none => rw [hi] at hok; simp at hok
      | some it =>
        cases hu : P.underlying t with
        | none => rw [hi, hu] at hok; simp at hok
        | some de =>
          rw [hi, hu] at hok
          cases de <;> first | (simp at hok; done) | skip
          rename_i fs
          dsimp only at hok ⊢
          cases hz : it.zero with
          | none => rw [hz] at hok; simp at hok
          | some z =>
            cases hm : fs.toList.mapM (fun f => (P.info? f.type).map fun i => (f.offset, i.size)) with
            | none => rw [hz, hm] at hok; simp at hok
            | some places =>
              rw [hz, hm] at hok
              dsimp only at hok ⊢
              injection hok with hok
              injection hok with e1 e2
              subst e1
              have e3 : z.cells = zs.toArray := by rw [← e2]
              rw [e3]
              have : (fun (x : Nat) => (places.toArray[x]? : Option (Nat × Nat))) = fun x => places[x]? := by funext x; simp
              rw [this]
              exact h1
    refine ⟨.agg u.toArray, ?_, ⟨u, rfl, h2⟩, fun s hs hv => ?_⟩
    · have := run_build (P := P) w t (ps.map fun (i, x) => (i, a.eval x)).toArray u.toArray (by simpa using hb)
      simp only [execOp]
      have e : (Array.map (fun x => (x.1, a.eval x.2)) ps.toArray) = (ps.map fun (i, x) => (i, a.eval x)).toArray := by simp
      have e2 : (Array.map (fun x : Nat × Operand => match x with | (i, x) => (i, a.eval x)) ps.toArray) = (ps.map fun (i, x) => (i, a.eval x)).toArray := by simp
      rw [e2, Sem.run_bind, this]
      rfl
    · rcases afill_tags _ _ _ _ hf s hs with h5 | ⟨p, hp, h5⟩
      · have : (zs.map fun v => A1.c (.raw v)).flatMap (·.tag.toList) = [] := by simp [A1.tag]
        rw [this] at h5; cases h5
      · obtain ⟨k, hk, rfl⟩ := List.getElem_of_mem hp
        simp only [List.length_zip, List.length_map] at hk
        simp only [List.getElem_zip, List.getElem_map] at h5
        have h3 := rdParts_at hR k (by omega) (by omega)
        exact hg.agv h3 s (by simpa [AV.tags, dr_tags] using h5) hv

theorem opx_build2 {i j : Nat} {r s : AR} {pl : List (Nat × Nat)} {zs : List Value} {res : List A1} [h : BldT P t pl zs]
    (hf : afill (pl[·]?) (zs.map fun v => .c (.raw v)) [(i, r.cells), (j, s.cells)] = some res) :
    OpX P ⟨some d, .build t #[(i, x), (j, y)], ty, pos, af, gd⟩ [(x, .r r), (y, .r s)] [] [] [(d, .agg res)] [] :=
  opx_build (ps := [(i, x), (j, y)]) (rs := [r, s]) rfl hf
end
end Go.Proofs.Ytokhfcfnhgianaa

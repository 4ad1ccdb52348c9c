/- Texts: Eng34 -/
import Derived.Test.YtokhfcfnhgianaaCG10
import Derived.Test.YtokhfcfnhgianaaCG7
import Derived.Test.YtokhfcfnhgianaaCG8
import Derived.MapKept
/-
  Maps from texts to numbers that a call makes: made, asked, stored into.
-/
namespace Go.Proofs.Ytokhfcfnhgianaa
open Go.RowKit Go.MapKept
set_option linter.unusedVariables false
set_option linter.unusedSimpArgs false

/-- The entries of a map whose keys came in this order, each with its place. -/
def mpL : Nat → List Str → List MapEntry
  | _, [] => []
  | i, k :: ks => ⟨.string ⟨k.toArray⟩, .int .i64 (i : Int), i⟩ :: mpL (i + 1) ks
abbrev mpO (ks : List Str) : OB := .raw (.map (mpL 0 ks).toArray ks.length)
theorem mpL_snoc : ∀ {ks : List Str} {i : Nat} {k : Str}, mpL i (ks ++ [k]) = mpL i ks ++ [⟨.string ⟨k.toArray⟩, .int .i64 ((i + ks.length : Nat) : Int), i + ks.length⟩]
  | [], i, k => rfl
  | x :: ks, i, k => by
    simp only [List.cons_append, mpL, mpL_snoc (ks := ks), List.length_cons]
    rw [show i + 1 + ks.length = i + (ks.length + 1) by omega]
def mpI (ks : List Str) (s : Str) : Nat := ks.findIdx fun x => decide (x = s)
theorem find_mp : ∀ {ks : List Str} {i : Nat} {s : Str}, Instr.findNow .string (.string ⟨s.toArray⟩) (mpL i ks) i = some (if mpI ks s < ks.length then some (i + mpI ks s, .int .i64 ((i + mpI ks s : Nat) : Int)) else none)
  | [], i, s => rfl
  | x :: ks, i, s => by
    have ih := find_mp (ks := ks) (i := i + 1) (s := s)
    simp only [mpL, Instr.findNow, Instr.sameNow]
    by_cases h : x = s
    · subst h
      have : ((⟨x.toArray⟩ : ByteArray) == ⟨x.toArray⟩) = true := (bytes_beq _ _).2 rfl
      rw [this]
      have h0 : mpI (x :: ks) x = 0 := by simp [mpI, List.findIdx_cons]
      rw [h0]
      simp
    · have hb : ((⟨s.toArray⟩ : ByteArray) == ⟨x.toArray⟩) = false := Bool.eq_false_iff.2 fun e => by
        have e := (bytes_beq _ _).1 e
        injection e with e
        injection e with e
        exact h e.symm
      have h1 : mpI (x :: ks) s = mpI ks s + 1 := by simp [mpI, List.findIdx_cons, h]
      rw [hb]
      show Instr.findNow .string (.string ⟨s.toArray⟩) (mpL (i + 1) ks) (i + 1) = _
      rw [ih, h1, List.length_cons]
      by_cases hl : mpI ks s < ks.length
      · rw [if_pos hl, if_pos (by omega), show i + 1 + mpI ks s = i + (mpI ks s + 1) by omega]
      · rw [if_neg hl, if_neg (by omega)]
/-- What a type of map is. -/
class MpT (P : Program) (T : TypeId) (kt et : outParam TypeId) : Prop where
  ok : P.underlying T = some (.map kt et)
  key : P.underlying kt = some .string
  zero : ∀ w : World, (zeroValue et).run P w = .ok (.int .i64 0) w
section
variable {P : Program} {d u : Nat} {x y z : Operand} {ty T kt et : TypeId} {pos : String} {af : Array Edge} {gd : Option (Nat × Bool)}
theorem opx_mkMap : OpX P ⟨some d, .makeMap T none, ty, pos, af, gd⟩ [] [] [u] [(d, .own u)] [(u, mpO [])] :=
  opx_new rfl (.inl rfl) fun cx S O V a w ρ Z hg hR hO hV =>
    ⟨.map (some w.heap.size), w.alloc (.map #[] 0), rfl, World.grownBy_alloc w _ none, ⟨w.heap.size, by simp [blk, Value.place], heap_alloc_new w _, by simp [mapV]⟩, fun g hb => by cases hb; exact Nat.le_refl _, ⟨fun s hs => (by cases hs), rfl, fun h => (by cases h)⟩⟩
theorem map_read {cx : Cx} {S : Nat → AV} {O : Nat → OB} {V : Nat → Prop} {a : Act} {w : World} {ρ : Nat → Value} {Z : Nat → Prop} (hg : Good cx S O V a w ρ Z) {ks : List Str} (hx : D1 ρ Z w (.own u) (a.eval x)) (ho : O u = mpO ks) :
    ∃ r, a.eval x = .map (some r) ∧ ρ u = .map (some r) ∧ w.heap[r]? = some (.map (mpL 0 ks).toArray ks.length) := by
  have h := hg.obj u
  rw [ho] at h
  obtain ⟨g, h1, h2, h3⟩ := h
  have h3 : ρ u = .map (some g) := h3
  exact ⟨g, by rw [← h3]; exact hx.1, h3, h2⟩
/-- 'v, ok := m[k]' -/
theorem opx_mapGet [hT : MpT P T kt et] {ks : List Str} {s : Str} : OpX P ⟨some d, .lookup T x y true, ty, pos, af, gd⟩ [(x, .own u), (y, .str s)] [(u, mpO ks)] []
    [(d, .tup [.one (.c (.raw (.int .i64 (if mpI ks s < ks.length then (mpI ks s : Int) else 0)))), .one (.c (.raw (.bool (decide (mpI ks s < ks.length)))))])] [] :=
  opx_val rfl fun cx S O V a w ρ Z hg hR hO => by
    obtain ⟨r, h1, _, h2⟩ := map_read (x := x) hg (hg.ag hR.1) hO.1
    have h3 := da_raw (hg.ag hR.2.1)
    refine ⟨.tuple #[.int .i64 (if mpI ks s < ks.length then (mpI ks s : Int) else 0), .bool (decide (mpI ks s < ks.length))], ?_, ⟨[.int .i64 (if mpI ks s < ks.length then (mpI ks s : Int) else 0), .bool (decide (mpI ks s < ks.length))], rfl, DC.raw _ rfl, DC.raw _ rfl, trivial⟩, fun t ht => (by simp [AV.tags, AR.tags, A1.tag] at ht)⟩
    have hf := find_mp (ks := ks) (i := 0) (s := s)
    simp only [Nat.zero_add] at hf
    have hk : (Instr.findKey kt (.string ⟨s.toArray⟩) (mpL 0 ks)).run P w = .ok (if mpI ks s < ks.length then some (mpI ks s, .int .i64 ((mpI ks s : Nat) : Int)) else none) w := by
      unfold Instr.findKey
      rw [Sem.run_bind, run_underlying hT.key]
      simp only [Result.andThen]
      rw [hf]; rfl
    have hl : (Instr.lookup T (.map (some r)) (.string ⟨s.toArray⟩) true).run P w = .ok (.tuple #[.int .i64 (if mpI ks s < ks.length then (mpI ks s : Int) else 0), .bool (decide (mpI ks s < ks.length))]) w := by
      unfold Instr.lookup
      rw [Sem.run_bind, run_underlying hT.ok]
      simp only [Result.andThen]
      rw [Sem.run_bind, MapKept.run_getObj_map h2]
      simp only [Result.andThen]
      rw [Sem.run_bind, Sem.run_pure]
      simp only [Result.andThen]
      rw [Sem.run_bind, run_checkKey hT.key (by trivial)]
      simp only [Result.andThen]
      rw [Sem.run_bind, hk]
      by_cases hh : mpI ks s < ks.length
      · simp [Result.andThen, hh]
      · simp [Result.andThen, hh, Sem.run_bind, hT.zero w]
    simp only [execOp, h1, h3]
    rw [Sem.run_bind, hl]; rfl
/-- 'm[k] = v' for a key that comes for the first time, with its place -/
theorem opx_mapPut [hT : MpT P T kt et] {ks : List Str} {s : Str} {v : Int} (hn : ¬ mpI ks s < ks.length) (hv : v = (ks.length : Int)) : OpX P ⟨none, .mapUpdate T x y z, ty, pos, af, gd⟩ [(x, .own u), (y, .str s), (z, .i v)] [(u, mpO ks)] [] [] [(u, mpO (ks ++ [s]))] :=
  opx_set rfl rfl fun cx S O V a w ρ Z hg hR hO => by
    obtain ⟨r, h1, h4, h2⟩ := map_read (x := x) hg (hg.ag hR.1) hO.1
    have h3 := da_raw (hg.ag hR.2.1)
    have h5 := da_raw (hg.ag hR.2.2.1)
    have hf := find_mp (ks := ks) (i := 0) (s := s)
    rw [if_neg hn] at hf
    have hk : (Instr.findKey kt (.string ⟨s.toArray⟩) (mpL 0 ks)).run P w = .ok none w := by
      unfold Instr.findKey
      rw [Sem.run_bind, run_underlying hT.key]
      simp only [Result.andThen]
      rw [hf]; rfl
    have he : ((mpL 0 ks).toArray.push ⟨.string ⟨s.toArray⟩, .int .i64 v, ks.length⟩) = (mpL 0 (ks ++ [s])).toArray := by
      rw [mpL_snoc, hv]; simp
    have hl : (Instr.mapUpdate T (.map (some r)) (.string ⟨s.toArray⟩) (.int .i64 v)).run P w = .ok () { w with heap := w.heap.setIfInBounds r (.map (mpL 0 (ks ++ [s])).toArray (ks ++ [s]).length) } := by
      unfold Instr.mapUpdate
      rw [Sem.run_bind, run_underlying hT.ok]
      simp only [Result.andThen]
      rw [Sem.run_bind, MapKept.run_getObj_map h2]
      simp only [Result.andThen]
      rw [Sem.run_bind, run_checkKey hT.key (by trivial)]
      simp only [Result.andThen]
      rw [Sem.run_bind, hk]
      simp only [Result.andThen]
      rw [he, run_setObj_map _ h2, List.length_append]; rfl
    have hlt : r < w.heap.size := (Array.getElem?_eq_some_iff.1 h2).1
    refine ⟨{ w with heap := w.heap.setIfInBounds r (.map (mpL 0 (ks ++ [s])).toArray (ks ++ [s]).length) }, ?_, by rw [hO.1]; rfl, ?_, ⟨r, by rw [h4]; rfl, ?_, h4⟩, fun t ht => (by cases ht)⟩
    · simp only [execOp, h1, h3, h5]
      rw [Sem.run_bind, hl]; rfl
    · rw [h4]
      exact ⟨rfl, rfl, rfl, by simp, fun g hg hne => by simp only [Array.getElem?_setIfInBounds]; rw [if_neg]; rintro rfl; exact hne rfl⟩
    · simp [hlt]
theorem opx_mapGetE [hT : MpT P T kt et] {ks : List Str} {s : Str} {i : Int} {b : Bool} (hi : (if mpI ks s < ks.length then (mpI ks s : Int) else 0) = i) (hb : decide (mpI ks s < ks.length) = b) : OpX P ⟨some d, .lookup T x y true, ty, pos, af, gd⟩ [(x, .own u), (y, .str s)] [(u, mpO ks)] []
    [(d, .tup [.one (.c (.raw (.int .i64 i))), .one (.c (.raw (.bool b)))])] [] := by
  subst hi; subst hb; exact opx_mapGet (hT := hT)
end
section
variable {P : Program} {ol : List Oper} {cx : Cx} {Q : APost} {done : List Keys} {rest : List Oper} {l : SL} {m : OL} {n u : Nat} {x y : Operand} {ty e : TypeId} {pos : String} {af : Array Edge}
theorem ad_stM1 {t : TypeId} [hT : TyOne P t] {xs : List (List (Str × Str) × Int)} {i : Nat} {a : Int} {p : List (Str × Str) × Int} (hx : Ag (lk .dead l) x (.el u 2 i 1)) (hy : Ag (lk .dead l) y (.c (cI a))) (ho : lk .gone m u = .row 2 e (smRs xs)) (hi : xs[i]? = some p)
    (k : AD P ol cx Q (⟨rtmps [(x, .el u 2 i 1), (y, .c (cI a))], [], [u], [u], []⟩ :: done) rest l ((u, .row 2 e (smRs (xs.set i (p.1, a)))) :: m) n) : AD P ol cx Q done (⟨none, .store t x y, ty, pos, af, none⟩ :: rest) l m n := by
  rw [← smRs_set] at k
  exact ad_s (opx_st1_el (rows := smRs xs) (row := smR p) (smRs_at hi) (by omega)) ⟨hx, hy, trivial⟩ ⟨ho, trivial⟩ k
end
end Go.Proofs.Ytokhfcfnhgianaa

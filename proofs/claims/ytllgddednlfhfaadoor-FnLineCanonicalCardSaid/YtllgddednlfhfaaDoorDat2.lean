/-
  Rules for lists of points, numbers, bytes, labels, texts, records, samples. Written by a program of our own.
-/
import Derived.Test.YtllgddednlfhfaaDoorDat
namespace Go.Proofs.YtllgddednlfhfaaDoor
open Go.RowKit
set_option linter.unusedVariables false
set_option linter.unusedSimpArgs false
abbrev Str := List UInt8
abbrev cS (s : Str) : CV := .raw (.string ⟨s.toArray⟩)
abbrev lbR (x : Str × Str) : List CV := [cS x.1, cS x.2]
def lbRs (xs : List (Str × Str)) : List (List CV) := xs.map lbR
abbrev stR (x : Str) : List CV := [cS x]
def stRs (xs : List Str) : List (List CV) := xs.map stR
abbrev rcR (x : Int × Int × Int) : List CV := [cI x.1, cI x.2.1, cI x.2.2]
def rcRs (xs : List (Int × Int × Int)) : List (List CV) := xs.map rcR
abbrev lcR (x : List (Str × Str)) : List CV := [.sl 2 (lbRs x)]
def lcRs (xs : List (List (Str × Str))) : List (List CV) := xs.map lcR
abbrev plR' (x : List (Int × Int)) : List CV := [.sl 2 (ptRs x)]
def plRs (xs : List (List (Int × Int))) : List (List CV) := xs.map plR'
abbrev smR (x : List (Str × Str) × Int) : List CV := [.sl 2 (lbRs x.1), cI x.2]
def smRs (xs : List (List (Str × Str) × Int)) : List (List CV) := xs.map smR
abbrev slL (xs : List (Str × Str)) : AR := .one (.c (.sl 2 (lbRs xs)))
abbrev slS (xs : List Str) : AR := .one (.c (.sl 1 (stRs xs)))
abbrev slR (xs : List (Int × Int × Int)) : AR := .one (.c (.sl 3 (rcRs xs)))
abbrev slC (xs : List (List (Str × Str))) : AR := .one (.c (.sl 1 (lcRs xs)))
abbrev slM (xs : List (List (Str × Str) × Int)) : AR := .one (.c (.sl 2 (smRs xs)))
theorem lbRs_flat {xs : List (Str × Str)} : flatRows (lbRs xs) := by
  intro r hr c hc
  obtain ⟨p, _, rfl⟩ := List.mem_map.1 hr
  simp at hc
  rcases hc with rfl | rfl <;> rfl
theorem stRs_flat {xs : List Str} : flatRows (stRs xs) := by
  intro r hr c hc
  obtain ⟨p, _, rfl⟩ := List.mem_map.1 hr
  simp at hc
  subst hc; rfl
theorem rcRs_flat {xs : List (Int × Int × Int)} : flatRows (rcRs xs) := by
  intro r hr c hc
  obtain ⟨p, _, rfl⟩ := List.mem_map.1 hr
  simp at hc
  rcases hc with rfl | rfl | rfl <;> rfl
section
variable {P : Program} {ops : Array Oper} {cx : Cx} {Q : APost} {rest : List Oper} {l : SL} {m : OL} {n d d1 u : Nat} {x y : Operand} {ty ty1 : TypeId} {pos pos1 : String} {af af1 : Array Edge} {T e bytes : Nat} {zs : List Value}
/-! ### general rows -/
theorem al_push1 [hT : SlT P T e 1 bytes zs] {rows rows' : List (List CV)} {c : CV} (he : rows ++ [[c]] = rows') (hx : AgL (lk .dead l) [(x, .c c)]) (hy : Ag (lk .dead ((d1, .own n) :: l)) y (.own u)) (ho : lk .gone ((n, .row 1 e [[c]]) :: m) u = .row 1 e rows)
    (hb : Nat.ble bytes 1000 = true) (hd1 : Nat.blt d1 cx.N = true) (hd : Nat.blt d cx.N = true) (hl : rows.length ≤ 1000000000)
    (k : AL P ops cx Q rest ((d, .own (n + 1)) :: (d1, .own n) :: l) ((n + 1, .row 1 e rows') :: (u, .gone) :: (n, .row 1 e [[c]]) :: m) (n + 1 + 1)) :
    AL P ops cx Q (⟨some d1, .buildSlice T 1 #[(0, x)], ty1, pos1, af1, none⟩ :: ⟨some d, .call { callee := .builtin .append, args := #[y, .tmp d1], argTypes := #[T, T] }, ty, pos, af, none⟩ :: rest) l m n := by
  subst he
  have hbytes : (rows.length + 1) * bytes ≤ 140737488355328 := Nat.le_trans (Nat.mul_le_mul_left _ (Nat.le_of_ble_eq_true hb)) (by omega)
  refine al_n (opx_lit1 (hT := hT) (S := lk .dead l) (ps := [(0, x)]) (cs := [c]) (.cons hx.1 (.nil _)) rfl rfl) hx trivial hd1 ?_
  refine al_n (opx_append (hT := hT) (u := u) (n := n + 1) [(n, .row 1 e [[c]])] (rows := rows) (news := [[c]]) (av := .own n) (fun O hO => .inr ⟨e, hO.1⟩) (by simp [maxLen]; omega) (by simpa using hbytes)) ⟨hy, by simp [Ag, vl, lk], trivial⟩ ⟨ho, by simp [lk], trivial⟩ hd ?_
  exact k
theorem al_push2 [hT : SlT P T e 2 bytes zs] {rows rows' : List (List CV)} {a b : CV} (he : rows ++ [[a, b]] = rows') (hx : AgL (lk .dead l) [(x, .agg [.c a, .c b])]) (hy : Ag (lk .dead ((d1, .own n) :: l)) y (.own u)) (ho : lk .gone ((n, .row 2 e [[a, b]]) :: m) u = .row 2 e rows)
    (hb : Nat.ble bytes 1000 = true) (hd1 : Nat.blt d1 cx.N = true) (hd : Nat.blt d cx.N = true) (hl : rows.length ≤ 1000000000)
    (k : AL P ops cx Q rest ((d, .own (n + 1)) :: (d1, .own n) :: l) ((n + 1, .row 2 e rows') :: (u, .gone) :: (n, .row 2 e [[a, b]]) :: m) (n + 1 + 1)) :
    AL P ops cx Q (⟨some d1, .buildSlice T 1 #[(0, x)], ty1, pos1, af1, none⟩ :: ⟨some d, .call { callee := .builtin .append, args := #[y, .tmp d1], argTypes := #[T, T] }, ty, pos, af, none⟩ :: rest) l m n := by
  subst he
  have hbytes : (rows.length + 1) * bytes ≤ 140737488355328 := Nat.le_trans (Nat.mul_le_mul_left _ (Nat.le_of_ble_eq_true hb)) (by omega)
  refine al_n (opx_lits2 (hT := hT) (a := a) (b := b)) hx trivial hd1 ?_
  refine al_n (opx_append (hT := hT) (u := u) (n := n + 1) [(n, .row 2 e [[a, b]])] (rows := rows) (news := [[a, b]]) (av := .own n) (fun O hO => .inr ⟨e, hO.1⟩) (by simp [maxLen]; omega) (by simpa using hbytes)) ⟨hy, by simp [Ag, vl, lk], trivial⟩ ⟨ho, by simp [lk], trivial⟩ hd ?_
  exact k
theorem al_push3 [hT : SlT P T e 3 bytes zs] {rows rows' : List (List CV)} {a b c : CV} (he : rows ++ [[a, b, c]] = rows') (hx : AgL (lk .dead l) [(x, .agg [.c a, .c b, .c c])]) (hy : Ag (lk .dead ((d1, .own n) :: l)) y (.own u)) (ho : lk .gone ((n, .row 3 e [[a, b, c]]) :: m) u = .row 3 e rows)
    (hb : Nat.ble bytes 1000 = true) (hd1 : Nat.blt d1 cx.N = true) (hd : Nat.blt d cx.N = true) (hl : rows.length ≤ 1000000000)
    (k : AL P ops cx Q rest ((d, .own (n + 1)) :: (d1, .own n) :: l) ((n + 1, .row 3 e rows') :: (u, .gone) :: (n, .row 3 e [[a, b, c]]) :: m) (n + 1 + 1)) :
    AL P ops cx Q (⟨some d1, .buildSlice T 1 #[(0, x)], ty1, pos1, af1, none⟩ :: ⟨some d, .call { callee := .builtin .append, args := #[y, .tmp d1], argTypes := #[T, T] }, ty, pos, af, none⟩ :: rest) l m n := by
  subst he
  have hbytes : (rows.length + 1) * bytes ≤ 140737488355328 := Nat.le_trans (Nat.mul_le_mul_left _ (Nat.le_of_ble_eq_true hb)) (by omega)
  refine al_n (opx_lits3 (hT := hT) (a := a) (b := b) (c := c)) hx trivial hd1 ?_
  refine al_n (opx_append (hT := hT) (u := u) (n := n + 1) [(n, .row 3 e [[a, b, c]])] (rows := rows) (news := [[a, b, c]]) (av := .own n) (fun O hO => .inr ⟨e, hO.1⟩) (by simp [maxLen]; omega) (by simpa using hbytes)) ⟨hy, by simp [Ag, vl, lk], trivial⟩ ⟨ho, by simp [lk], trivial⟩ hd ?_
  exact k
theorem ad_push1 {ol : List Oper} {done : List Keys} [hT : SlT P T e 1 bytes zs] {rows rows' : List (List CV)} {c : CV} (he : rows ++ [[c]] = rows') (hx : AgL (lk .dead l) [(x, .c c)]) (hy : Ag (lk .dead ((d1, .own n) :: l)) y (.own u)) (ho : lk .gone ((n, .row 1 e [[c]]) :: m) u = .row 1 e rows)
    (hb : Nat.ble bytes 1000 = true) (hd1 : Nat.blt d1 cx.N = true) (hd : Nat.blt d cx.N = true) (hl : rows.length ≤ 1000000000)
    (k : AD P ol cx Q (⟨rtmps [(y, .own u), (.tmp d1, .own n)], [d], [u, n], [n + 1, u], [n + 1]⟩ :: ⟨rtmps [(x, .c c)], [d1], [], [n], [n]⟩ :: done) rest ((d, .own (n + 1)) :: (d1, .own n) :: l) ((n + 1, .row 1 e rows') :: (u, .gone) :: (n, .row 1 e [[c]]) :: m) (n + 1 + 1)) :
    AD P ol cx Q done (⟨some d1, .buildSlice T 1 #[(0, x)], ty1, pos1, af1, none⟩ :: ⟨some d, .call { callee := .builtin .append, args := #[y, .tmp d1], argTypes := #[T, T] }, ty, pos, af, none⟩ :: rest) l m n := by
  subst he
  have hbytes : (rows.length + 1) * bytes ≤ 140737488355328 := Nat.le_trans (Nat.mul_le_mul_left _ (Nat.le_of_ble_eq_true hb)) (by omega)
  refine ad_n (opx_lit1 (hT := hT) (S := lk .dead l) (ps := [(0, x)]) (cs := [c]) (.cons hx.1 (.nil _)) rfl rfl) hx trivial hd1 ?_
  refine ad_n (opx_append (hT := hT) (u := u) (n := n + 1) [(n, .row 1 e [[c]])] (rows := rows) (news := [[c]]) (av := .own n) (fun O hO => .inr ⟨e, hO.1⟩) (by simp [maxLen]; omega) (by simpa using hbytes)) ⟨hy, by simp [Ag, vl, lk], trivial⟩ ⟨ho, by simp [lk], trivial⟩ hd ?_
  exact k
theorem ad_push2 {ol : List Oper} {done : List Keys} [hT : SlT P T e 2 bytes zs] {rows rows' : List (List CV)} {a b : CV} (he : rows ++ [[a, b]] = rows') (hx : AgL (lk .dead l) [(x, .agg [.c a, .c b])]) (hy : Ag (lk .dead ((d1, .own n) :: l)) y (.own u)) (ho : lk .gone ((n, .row 2 e [[a, b]]) :: m) u = .row 2 e rows)
    (hb : Nat.ble bytes 1000 = true) (hd1 : Nat.blt d1 cx.N = true) (hd : Nat.blt d cx.N = true) (hl : rows.length ≤ 1000000000)
    (k : AD P ol cx Q (⟨rtmps [(y, .own u), (.tmp d1, .own n)], [d], [u, n], [n + 1, u], [n + 1]⟩ :: ⟨rtmps [(x, .agg [.c a, .c b])], [d1], [], [n], [n]⟩ :: done) rest ((d, .own (n + 1)) :: (d1, .own n) :: l) ((n + 1, .row 2 e rows') :: (u, .gone) :: (n, .row 2 e [[a, b]]) :: m) (n + 1 + 1)) :
    AD P ol cx Q done (⟨some d1, .buildSlice T 1 #[(0, x)], ty1, pos1, af1, none⟩ :: ⟨some d, .call { callee := .builtin .append, args := #[y, .tmp d1], argTypes := #[T, T] }, ty, pos, af, none⟩ :: rest) l m n := by
  subst he
  have hbytes : (rows.length + 1) * bytes ≤ 140737488355328 := Nat.le_trans (Nat.mul_le_mul_left _ (Nat.le_of_ble_eq_true hb)) (by omega)
  refine ad_n (opx_lits2 (hT := hT) (a := a) (b := b)) hx trivial hd1 ?_
  refine ad_n (opx_append (hT := hT) (u := u) (n := n + 1) [(n, .row 2 e [[a, b]])] (rows := rows) (news := [[a, b]]) (av := .own n) (fun O hO => .inr ⟨e, hO.1⟩) (by simp [maxLen]; omega) (by simpa using hbytes)) ⟨hy, by simp [Ag, vl, lk], trivial⟩ ⟨ho, by simp [lk], trivial⟩ hd ?_
  exact k
/-- 'append(s, t...)': t a value, a slice that is written no more, one of the call's own -/
theorem al_app {wd : Nat} [hT : SlT P T e wd bytes zs] {rows news rows' : List (List CV)} {av : AV} (RO : OL) (hs : ∀ O, OgL O RO → SlV O av wd news) (he : rows ++ news = rows') (hx : Ag (lk .dead l) x av) (hy : Ag (lk .dead l) y (.own u)) (ho : lk .gone m u = .row wd e rows) (hr : OgL (lk .gone m) RO)
    (hb : Nat.ble bytes 1000 = true) (hd : Nat.blt d cx.N = true) (hl : rows.length + news.length ≤ 1000000000)
    (k : AL P ops cx Q rest ((d, .own n) :: l) ((n, .row wd e rows') :: (u, .gone) :: m) (n + 1)) :
    AL P ops cx Q (⟨some d, .call { callee := .builtin .append, args := #[y, x], argTypes := #[T, T] }, ty, pos, af, none⟩ :: rest) l m n := by
  subst he
  have hbytes : (rows.length + news.length) * bytes ≤ 140737488355328 := Nat.le_trans (Nat.mul_le_mul_left _ (Nat.le_of_ble_eq_true hb)) (by omega)
  exact al_n (opx_append (hT := hT) (u := u) (n := n) RO (rows := rows) (news := news) (av := av) hs (by simp [maxLen]; omega) hbytes) ⟨hy, hx, trivial⟩ ⟨ho, hr⟩ hd k
theorem al_app0 {wd : Nat} [hT : SlT P T e wd bytes zs] {news : List (List CV)} {av : AV} (RO : OL) (hs : ∀ O, OgL O RO → SlV O av wd news) (hx : Ag (lk .dead l) x av) (hy : Ag (lk .dead l) y (.raw (.slice none 0 0))) (hr : OgL (lk .gone m) RO)
    (hb : Nat.ble bytes 1000 = true) (hd : Nat.blt d cx.N = true) (hl : news.length ≤ 1000000000)
    (k : AL P ops cx Q rest ((d, .own n) :: l) ((n, .row wd e news) :: m) (n + 1)) :
    AL P ops cx Q (⟨some d, .call { callee := .builtin .append, args := #[y, x], argTypes := #[T, T] }, ty, pos, af, none⟩ :: rest) l m n := by
  have hbytes : news.length * bytes ≤ 140737488355328 := Nat.le_trans (Nat.mul_le_mul_left _ (Nat.le_of_ble_eq_true hb)) (by omega)
  exact al_n (opx_append_nil (hT := hT) (n := n) RO (news := news) (av := av) hs (by simp [maxLen]; omega) hbytes) ⟨hy, hx, trivial⟩ hr hd k
/-- 'make([]T, 0, c)' -/
theorem al_mk0 {wd : Nat} [hT : SlT P T e wd bytes zs] {c : Int} (hx : Ag (lk .dead l) x (.i 0)) (hy : Ag (lk .dead l) y (.i c)) (hb : Nat.ble bytes 1000 = true) (hd : Nat.blt d cx.N = true) (hc : 0 ≤ c ∧ c ≤ 1000000000)
    (k : AL P ops cx Q rest ((d, .own n) :: l) ((n, .row wd e []) :: m) (n + 1)) :
    AL P ops cx Q (⟨some d, .makeSlice T x y, ty, pos, af, none⟩ :: rest) l m n := by
  obtain ⟨C, rfl⟩ : ∃ C : Nat, c = (C : Int) := ⟨c.toNat, by omega⟩
  have hbytes : bytes * C ≤ 281474976710656 := Nat.le_trans (Nat.mul_le_mul_right _ (Nat.le_of_ble_eq_true hb)) (by omega)
  exact al_n (opx_make (hT := hT) (l := 0) (c := C) rfl rfl (by omega) (by simp [maxLen]; omega) hbytes) ⟨hx, hy, trivial⟩ trivial hd k
/-- 'make([]T, c)' -/
theorem al_mkn {wd : Nat} [hT : SlT P T e wd bytes zs] {c : Int} {rows : List (List CV)} (C : Nat) (hr : List.replicate C (zs.map CV.raw) = rows) (hC : c = (C : Int)) (hx : Ag (lk .dead l) x (.i c)) (hy : Ag (lk .dead l) y (.i c)) (hb : Nat.ble bytes 1000 = true) (hd : Nat.blt d cx.N = true) (hc : C ≤ 1000000000)
    (k : AL P ops cx Q rest ((d, .own n) :: l) ((n, .row wd e rows) :: m) (n + 1)) :
    AL P ops cx Q (⟨some d, .makeSlice T x y, ty, pos, af, none⟩ :: rest) l m n := by
  subst hC hr
  have hbytes : bytes * C ≤ 281474976710656 := Nat.le_trans (Nat.mul_le_mul_right _ (Nat.le_of_ble_eq_true hb)) (by omega)
  exact al_n (opx_make (hT := hT) (l := C) (c := C) rfl rfl (by omega) (by simp [maxLen]; omega) hbytes) ⟨hx, hy, trivial⟩ trivial hd k

theorem ptRs_nil : ptRs [] = [] := rfl
theorem ptRs_cat {xs ys : List (Int × Int)} : ptRs xs ++ ptRs ys = ptRs (xs ++ ys) := by simp [ptRs]
theorem ptRs_cut {xs : List (Int × Int)} {a b : Nat} : ((ptRs xs).take b).drop a = ptRs ((xs.take b).drop a) := by simp [ptRs, List.map_take, List.map_drop]
theorem ptRs_hd {xs : List (Int × Int)} {b : Nat} : ((ptRs xs).take b).drop 0 = ptRs (xs.take b) := by simp [ptRs, List.map_take]
theorem ptRs_tl {xs : List (Int × Int)} {a : Nat} : ((ptRs xs).take (ptRs xs).length).drop a = ptRs (xs.drop a) := by rw [List.take_length]; simp [ptRs, List.map_drop]
theorem ptRs_set {xs : List (Int × Int)} {k : Nat} {x : Int × Int} : (ptRs xs).set k (ptR x) = ptRs (xs.set k x) := by simp [ptRs, List.map_set]
theorem al_pusheP [hT : SlT P T e 2 bytes zs] {a b : Int} (hx : AgL (lk .dead l) [(x, .agg [.c (cI a), .c (cI b)])]) (hy : Ag (lk .dead ((d1, .own n) :: l)) y (.own u)) (ho : lk .gone ((n, .row 2 e [[cI a, cI b]]) :: m) u = .row 2 e [])
    (hb : Nat.ble bytes 1000 = true) (hd1 : Nat.blt d1 cx.N = true) (hd : Nat.blt d cx.N = true)
    (k : AL P ops cx Q rest ((d, .own (n + 1)) :: (d1, .own n) :: l) ((n + 1, .row 2 e (ptRs [(a, b)])) :: (u, .gone) :: (n, .row 2 e [[cI a, cI b]]) :: m) (n + 1 + 1)) :
    AL P ops cx Q (⟨some d1, .buildSlice T 1 #[(0, x)], ty1, pos1, af1, none⟩ :: ⟨some d, .call { callee := .builtin .append, args := #[y, .tmp d1], argTypes := #[T, T] }, ty, pos, af, none⟩ :: rest) l m n :=
  al_push2 rfl hx hy ho hb hd1 hd (by simp) k
theorem al_appPv [hT : SlT P T e 2 bytes zs] {xs ys : List (Int × Int)} (hx : Ag (lk .dead l) x (.sl 2 (ptRs ys))) (hy : Ag (lk .dead l) y (.own u)) (ho : lk .gone m u = .row 2 e (ptRs xs)) (hb : Nat.ble bytes 1000 = true) (hd : Nat.blt d cx.N = true) (hl : xs.length + ys.length ≤ 1000000000)
    (k : AL P ops cx Q rest ((d, .own n) :: l) ((n, .row 2 e (ptRs (xs ++ ys))) :: (u, .gone) :: m) (n + 1)) :
    AL P ops cx Q (⟨some d, .call { callee := .builtin .append, args := #[y, x], argTypes := #[T, T] }, ty, pos, af, none⟩ :: rest) l m n :=
  al_app (wd := 2) (av := .sl 2 (ptRs ys)) (rows := ptRs xs) (news := ptRs ys) [] (fun O hO => ⟨rfl, rfl⟩) ptRs_cat hx hy ho trivial hb hd (by rw [ptRs_len, ptRs_len]; exact hl) k
theorem al_appnPv [hT : SlT P T e 2 bytes zs] {ys : List (Int × Int)} (hx : Ag (lk .dead l) x (.sl 2 (ptRs ys))) (hy : Ag (lk .dead l) y (.raw (.slice none 0 0))) (hb : Nat.ble bytes 1000 = true) (hd : Nat.blt d cx.N = true) (hl : ys.length ≤ 1000000000)
    (k : AL P ops cx Q rest ((d, .own n) :: l) ((n, .row 2 e (ptRs ys)) :: m) (n + 1)) :
    AL P ops cx Q (⟨some d, .call { callee := .builtin .append, args := #[y, x], argTypes := #[T, T] }, ty, pos, af, none⟩ :: rest) l m n :=
  al_app0 (wd := 2) (av := .sl 2 (ptRs ys)) (news := ptRs ys) [] (fun O hO => ⟨rfl, rfl⟩) hx hy trivial hb hd (by rw [ptRs_len]; exact hl) k
theorem al_appPf [hT : SlT P T e 2 bytes zs] {xs ys : List (Int × Int)} {t : Nat} (hx : Ag (lk .dead l) x (.own t)) (ht : lk .gone m t = .froz 2 (ptRs ys)) (hy : Ag (lk .dead l) y (.own u)) (ho : lk .gone m u = .row 2 e (ptRs xs)) (hb : Nat.ble bytes 1000 = true) (hd : Nat.blt d cx.N = true) (hl : xs.length + ys.length ≤ 1000000000)
    (k : AL P ops cx Q rest ((d, .own n) :: l) ((n, .row 2 e (ptRs (xs ++ ys))) :: (u, .gone) :: m) (n + 1)) :
    AL P ops cx Q (⟨some d, .call { callee := .builtin .append, args := #[y, x], argTypes := #[T, T] }, ty, pos, af, none⟩ :: rest) l m n :=
  al_app (wd := 2) (av := .own t) (rows := ptRs xs) (news := ptRs ys) [(t, .froz 2 (ptRs ys))] (fun O hO => .inl hO.1) ptRs_cat hx hy ho ⟨ht, trivial⟩ hb hd (by rw [ptRs_len, ptRs_len]; exact hl) k
theorem al_appnPf [hT : SlT P T e 2 bytes zs] {ys : List (Int × Int)} {t : Nat} (hx : Ag (lk .dead l) x (.own t)) (ht : lk .gone m t = .froz 2 (ptRs ys)) (hy : Ag (lk .dead l) y (.raw (.slice none 0 0))) (hb : Nat.ble bytes 1000 = true) (hd : Nat.blt d cx.N = true) (hl : ys.length ≤ 1000000000)
    (k : AL P ops cx Q rest ((d, .own n) :: l) ((n, .row 2 e (ptRs ys)) :: m) (n + 1)) :
    AL P ops cx Q (⟨some d, .call { callee := .builtin .append, args := #[y, x], argTypes := #[T, T] }, ty, pos, af, none⟩ :: rest) l m n :=
  al_app0 (wd := 2) (av := .own t) (news := ptRs ys) [(t, .froz 2 (ptRs ys))] (fun O hO => .inl hO.1) hx hy ⟨ht, trivial⟩ hb hd (by rw [ptRs_len]; exact hl) k
theorem al_appPr [hT : SlT P T e 2 bytes zs] {xs ys : List (Int × Int)} {t : Nat} {e' : TypeId} (hx : Ag (lk .dead l) x (.own t)) (ht : lk .gone m t = .row 2 e' (ptRs ys)) (hy : Ag (lk .dead l) y (.own u)) (ho : lk .gone m u = .row 2 e (ptRs xs)) (hb : Nat.ble bytes 1000 = true) (hd : Nat.blt d cx.N = true) (hl : xs.length + ys.length ≤ 1000000000)
    (k : AL P ops cx Q rest ((d, .own n) :: l) ((n, .row 2 e (ptRs (xs ++ ys))) :: (u, .gone) :: m) (n + 1)) :
    AL P ops cx Q (⟨some d, .call { callee := .builtin .append, args := #[y, x], argTypes := #[T, T] }, ty, pos, af, none⟩ :: rest) l m n :=
  al_app (wd := 2) (av := .own t) (rows := ptRs xs) (news := ptRs ys) [(t, .row 2 e' (ptRs ys))] (fun O hO => (.inr ⟨e', hO.1⟩)) ptRs_cat hx hy ho ⟨ht, trivial⟩ hb hd (by rw [ptRs_len, ptRs_len]; exact hl) k
theorem al_appnPr [hT : SlT P T e 2 bytes zs] {ys : List (Int × Int)} {t : Nat} {e' : TypeId} (hx : Ag (lk .dead l) x (.own t)) (ht : lk .gone m t = .row 2 e' (ptRs ys)) (hy : Ag (lk .dead l) y (.raw (.slice none 0 0))) (hb : Nat.ble bytes 1000 = true) (hd : Nat.blt d cx.N = true) (hl : ys.length ≤ 1000000000)
    (k : AL P ops cx Q rest ((d, .own n) :: l) ((n, .row 2 e (ptRs ys)) :: m) (n + 1)) :
    AL P ops cx Q (⟨some d, .call { callee := .builtin .append, args := #[y, x], argTypes := #[T, T] }, ty, pos, af, none⟩ :: rest) l m n :=
  al_app0 (wd := 2) (av := .own t) (news := ptRs ys) [(t, .row 2 e' (ptRs ys))] (fun O hO => (.inr ⟨e', hO.1⟩)) hx hy ⟨ht, trivial⟩ hb hd (by rw [ptRs_len]; exact hl) k
theorem inRs_nil : inRs [] = [] := rfl
theorem inRs_cat {xs ys : List (Int)} : inRs xs ++ inRs ys = inRs (xs ++ ys) := by simp [inRs]
theorem inRs_cut {xs : List (Int)} {a b : Nat} : ((inRs xs).take b).drop a = inRs ((xs.take b).drop a) := by simp [inRs, List.map_take, List.map_drop]
theorem inRs_hd {xs : List (Int)} {b : Nat} : ((inRs xs).take b).drop 0 = inRs (xs.take b) := by simp [inRs, List.map_take]
theorem inRs_tl {xs : List (Int)} {a : Nat} : ((inRs xs).take (inRs xs).length).drop a = inRs (xs.drop a) := by rw [List.take_length]; simp [inRs, List.map_drop]
theorem inRs_set {xs : List (Int)} {k : Nat} {x : Int} : (inRs xs).set k (inR x) = inRs (xs.set k x) := by simp [inRs, List.map_set]
theorem al_pusheI [hT : SlT P T e 1 bytes zs] {a : Int} (hx : AgL (lk .dead l) [(x, .i a)]) (hy : Ag (lk .dead ((d1, .own n) :: l)) y (.own u)) (ho : lk .gone ((n, .row 1 e [[cI a]]) :: m) u = .row 1 e [])
    (hb : Nat.ble bytes 1000 = true) (hd1 : Nat.blt d1 cx.N = true) (hd : Nat.blt d cx.N = true)
    (k : AL P ops cx Q rest ((d, .own (n + 1)) :: (d1, .own n) :: l) ((n + 1, .row 1 e (inRs [a])) :: (u, .gone) :: (n, .row 1 e [[cI a]]) :: m) (n + 1 + 1)) :
    AL P ops cx Q (⟨some d1, .buildSlice T 1 #[(0, x)], ty1, pos1, af1, none⟩ :: ⟨some d, .call { callee := .builtin .append, args := #[y, .tmp d1], argTypes := #[T, T] }, ty, pos, af, none⟩ :: rest) l m n :=
  al_push1 rfl hx hy ho hb hd1 hd (by simp) k
theorem ad_pushI {ol : List Oper} {done : List Keys} [hT : SlT P T e 1 bytes zs] {xs : List (Int)} {a : Int} (hx : AgL (lk .dead l) [(x, .i a)]) (hy : Ag (lk .dead ((d1, .own n) :: l)) y (.own u)) (ho : lk .gone ((n, .row 1 e [[cI a]]) :: m) u = .row 1 e (inRs xs))
    (hb : Nat.ble bytes 1000 = true) (hd1 : Nat.blt d1 cx.N = true) (hd : Nat.blt d cx.N = true) (hl : xs.length ≤ 1000000000)
    (k : AD P ol cx Q (⟨rtmps [(y, .own u), (.tmp d1, .own n)], [d], [u, n], [n + 1, u], [n + 1]⟩ :: ⟨rtmps [(x, .i a)], [d1], [], [n], [n]⟩ :: done) rest ((d, .own (n + 1)) :: (d1, .own n) :: l) ((n + 1, .row 1 e (inRs (xs ++ [a]))) :: (u, .gone) :: (n, .row 1 e [[cI a]]) :: m) (n + 1 + 1)) :
    AD P ol cx Q done (⟨some d1, .buildSlice T 1 #[(0, x)], ty1, pos1, af1, none⟩ :: ⟨some d, .call { callee := .builtin .append, args := #[y, .tmp d1], argTypes := #[T, T] }, ty, pos, af, none⟩ :: rest) l m n :=
  ad_push1 (by rw [← inRs_cat]; rfl) hx hy ho hb hd1 hd (by simpa [inRs] using hl) k
theorem al_appIv [hT : SlT P T e 1 bytes zs] {xs ys : List (Int)} (hx : Ag (lk .dead l) x (.sl 1 (inRs ys))) (hy : Ag (lk .dead l) y (.own u)) (ho : lk .gone m u = .row 1 e (inRs xs)) (hb : Nat.ble bytes 1000 = true) (hd : Nat.blt d cx.N = true) (hl : xs.length + ys.length ≤ 1000000000)
    (k : AL P ops cx Q rest ((d, .own n) :: l) ((n, .row 1 e (inRs (xs ++ ys))) :: (u, .gone) :: m) (n + 1)) :
    AL P ops cx Q (⟨some d, .call { callee := .builtin .append, args := #[y, x], argTypes := #[T, T] }, ty, pos, af, none⟩ :: rest) l m n :=
  al_app (wd := 1) (av := .sl 1 (inRs ys)) (rows := inRs xs) (news := inRs ys) [] (fun O hO => ⟨rfl, rfl⟩) inRs_cat hx hy ho trivial hb hd (by rw [inRs_len, inRs_len]; exact hl) k
theorem al_appnIv [hT : SlT P T e 1 bytes zs] {ys : List (Int)} (hx : Ag (lk .dead l) x (.sl 1 (inRs ys))) (hy : Ag (lk .dead l) y (.raw (.slice none 0 0))) (hb : Nat.ble bytes 1000 = true) (hd : Nat.blt d cx.N = true) (hl : ys.length ≤ 1000000000)
    (k : AL P ops cx Q rest ((d, .own n) :: l) ((n, .row 1 e (inRs ys)) :: m) (n + 1)) :
    AL P ops cx Q (⟨some d, .call { callee := .builtin .append, args := #[y, x], argTypes := #[T, T] }, ty, pos, af, none⟩ :: rest) l m n :=
  al_app0 (wd := 1) (av := .sl 1 (inRs ys)) (news := inRs ys) [] (fun O hO => ⟨rfl, rfl⟩) hx hy trivial hb hd (by rw [inRs_len]; exact hl) k
theorem al_appIf [hT : SlT P T e 1 bytes zs] {xs ys : List (Int)} {t : Nat} (hx : Ag (lk .dead l) x (.own t)) (ht : lk .gone m t = .froz 1 (inRs ys)) (hy : Ag (lk .dead l) y (.own u)) (ho : lk .gone m u = .row 1 e (inRs xs)) (hb : Nat.ble bytes 1000 = true) (hd : Nat.blt d cx.N = true) (hl : xs.length + ys.length ≤ 1000000000)
    (k : AL P ops cx Q rest ((d, .own n) :: l) ((n, .row 1 e (inRs (xs ++ ys))) :: (u, .gone) :: m) (n + 1)) :
    AL P ops cx Q (⟨some d, .call { callee := .builtin .append, args := #[y, x], argTypes := #[T, T] }, ty, pos, af, none⟩ :: rest) l m n :=
  al_app (wd := 1) (av := .own t) (rows := inRs xs) (news := inRs ys) [(t, .froz 1 (inRs ys))] (fun O hO => .inl hO.1) inRs_cat hx hy ho ⟨ht, trivial⟩ hb hd (by rw [inRs_len, inRs_len]; exact hl) k
theorem al_appnIf [hT : SlT P T e 1 bytes zs] {ys : List (Int)} {t : Nat} (hx : Ag (lk .dead l) x (.own t)) (ht : lk .gone m t = .froz 1 (inRs ys)) (hy : Ag (lk .dead l) y (.raw (.slice none 0 0))) (hb : Nat.ble bytes 1000 = true) (hd : Nat.blt d cx.N = true) (hl : ys.length ≤ 1000000000)
    (k : AL P ops cx Q rest ((d, .own n) :: l) ((n, .row 1 e (inRs ys)) :: m) (n + 1)) :
    AL P ops cx Q (⟨some d, .call { callee := .builtin .append, args := #[y, x], argTypes := #[T, T] }, ty, pos, af, none⟩ :: rest) l m n :=
  al_app0 (wd := 1) (av := .own t) (news := inRs ys) [(t, .froz 1 (inRs ys))] (fun O hO => .inl hO.1) hx hy ⟨ht, trivial⟩ hb hd (by rw [inRs_len]; exact hl) k
theorem al_appIr [hT : SlT P T e 1 bytes zs] {xs ys : List (Int)} {t : Nat} {e' : TypeId} (hx : Ag (lk .dead l) x (.own t)) (ht : lk .gone m t = .row 1 e' (inRs ys)) (hy : Ag (lk .dead l) y (.own u)) (ho : lk .gone m u = .row 1 e (inRs xs)) (hb : Nat.ble bytes 1000 = true) (hd : Nat.blt d cx.N = true) (hl : xs.length + ys.length ≤ 1000000000)
    (k : AL P ops cx Q rest ((d, .own n) :: l) ((n, .row 1 e (inRs (xs ++ ys))) :: (u, .gone) :: m) (n + 1)) :
    AL P ops cx Q (⟨some d, .call { callee := .builtin .append, args := #[y, x], argTypes := #[T, T] }, ty, pos, af, none⟩ :: rest) l m n :=
  al_app (wd := 1) (av := .own t) (rows := inRs xs) (news := inRs ys) [(t, .row 1 e' (inRs ys))] (fun O hO => (.inr ⟨e', hO.1⟩)) inRs_cat hx hy ho ⟨ht, trivial⟩ hb hd (by rw [inRs_len, inRs_len]; exact hl) k
theorem al_appnIr [hT : SlT P T e 1 bytes zs] {ys : List (Int)} {t : Nat} {e' : TypeId} (hx : Ag (lk .dead l) x (.own t)) (ht : lk .gone m t = .row 1 e' (inRs ys)) (hy : Ag (lk .dead l) y (.raw (.slice none 0 0))) (hb : Nat.ble bytes 1000 = true) (hd : Nat.blt d cx.N = true) (hl : ys.length ≤ 1000000000)
    (k : AL P ops cx Q rest ((d, .own n) :: l) ((n, .row 1 e (inRs ys)) :: m) (n + 1)) :
    AL P ops cx Q (⟨some d, .call { callee := .builtin .append, args := #[y, x], argTypes := #[T, T] }, ty, pos, af, none⟩ :: rest) l m n :=
  al_app0 (wd := 1) (av := .own t) (news := inRs ys) [(t, .row 1 e' (inRs ys))] (fun O hO => (.inr ⟨e', hO.1⟩)) hx hy ⟨ht, trivial⟩ hb hd (by rw [inRs_len]; exact hl) k
theorem byRs_nil : byRs [] = [] := rfl
theorem byRs_cat {xs ys : List (UInt8)} : byRs xs ++ byRs ys = byRs (xs ++ ys) := by simp [byRs]
theorem byRs_cut {xs : List (UInt8)} {a b : Nat} : ((byRs xs).take b).drop a = byRs ((xs.take b).drop a) := by simp [byRs, List.map_take, List.map_drop]
theorem byRs_hd {xs : List (UInt8)} {b : Nat} : ((byRs xs).take b).drop 0 = byRs (xs.take b) := by simp [byRs, List.map_take]
theorem byRs_tl {xs : List (UInt8)} {a : Nat} : ((byRs xs).take (byRs xs).length).drop a = byRs (xs.drop a) := by rw [List.take_length]; simp [byRs, List.map_drop]
theorem byRs_set {xs : List (UInt8)} {k : Nat} {x : UInt8} : (byRs xs).set k (byR x) = byRs (xs.set k x) := by simp [byRs, List.map_set]
theorem al_pushB [hT : SlT P T e 1 bytes zs] {xs : List (UInt8)} {a : UInt8} (hx : AgL (lk .dead l) [(x, .raw (.int .u8 a.toNat))]) (hy : Ag (lk .dead ((d1, .own n) :: l)) y (.own u)) (ho : lk .gone ((n, .row 1 e [[.raw (.int .u8 a.toNat)]]) :: m) u = .row 1 e (byRs xs))
    (hb : Nat.ble bytes 1000 = true) (hd1 : Nat.blt d1 cx.N = true) (hd : Nat.blt d cx.N = true) (hl : xs.length ≤ 1000000000)
    (k : AL P ops cx Q rest ((d, .own (n + 1)) :: (d1, .own n) :: l) ((n + 1, .row 1 e (byRs (xs ++ [a]))) :: (u, .gone) :: (n, .row 1 e [[.raw (.int .u8 a.toNat)]]) :: m) (n + 1 + 1)) :
    AL P ops cx Q (⟨some d1, .buildSlice T 1 #[(0, x)], ty1, pos1, af1, none⟩ :: ⟨some d, .call { callee := .builtin .append, args := #[y, .tmp d1], argTypes := #[T, T] }, ty, pos, af, none⟩ :: rest) l m n :=
  al_push1 (by rw [← byRs_cat]; rfl) hx hy ho hb hd1 hd (by simpa [byRs] using hl) k
theorem al_pusheB [hT : SlT P T e 1 bytes zs] {a : UInt8} (hx : AgL (lk .dead l) [(x, .raw (.int .u8 a.toNat))]) (hy : Ag (lk .dead ((d1, .own n) :: l)) y (.own u)) (ho : lk .gone ((n, .row 1 e [[.raw (.int .u8 a.toNat)]]) :: m) u = .row 1 e [])
    (hb : Nat.ble bytes 1000 = true) (hd1 : Nat.blt d1 cx.N = true) (hd : Nat.blt d cx.N = true)
    (k : AL P ops cx Q rest ((d, .own (n + 1)) :: (d1, .own n) :: l) ((n + 1, .row 1 e (byRs [a])) :: (u, .gone) :: (n, .row 1 e [[.raw (.int .u8 a.toNat)]]) :: m) (n + 1 + 1)) :
    AL P ops cx Q (⟨some d1, .buildSlice T 1 #[(0, x)], ty1, pos1, af1, none⟩ :: ⟨some d, .call { callee := .builtin .append, args := #[y, .tmp d1], argTypes := #[T, T] }, ty, pos, af, none⟩ :: rest) l m n :=
  al_push1 rfl hx hy ho hb hd1 hd (by simp) k
theorem ad_pushB {ol : List Oper} {done : List Keys} [hT : SlT P T e 1 bytes zs] {xs : List (UInt8)} {a : UInt8} (hx : AgL (lk .dead l) [(x, .raw (.int .u8 a.toNat))]) (hy : Ag (lk .dead ((d1, .own n) :: l)) y (.own u)) (ho : lk .gone ((n, .row 1 e [[.raw (.int .u8 a.toNat)]]) :: m) u = .row 1 e (byRs xs))
    (hb : Nat.ble bytes 1000 = true) (hd1 : Nat.blt d1 cx.N = true) (hd : Nat.blt d cx.N = true) (hl : xs.length ≤ 1000000000)
    (k : AD P ol cx Q (⟨rtmps [(y, .own u), (.tmp d1, .own n)], [d], [u, n], [n + 1, u], [n + 1]⟩ :: ⟨rtmps [(x, .raw (.int .u8 a.toNat))], [d1], [], [n], [n]⟩ :: done) rest ((d, .own (n + 1)) :: (d1, .own n) :: l) ((n + 1, .row 1 e (byRs (xs ++ [a]))) :: (u, .gone) :: (n, .row 1 e [[.raw (.int .u8 a.toNat)]]) :: m) (n + 1 + 1)) :
    AD P ol cx Q done (⟨some d1, .buildSlice T 1 #[(0, x)], ty1, pos1, af1, none⟩ :: ⟨some d, .call { callee := .builtin .append, args := #[y, .tmp d1], argTypes := #[T, T] }, ty, pos, af, none⟩ :: rest) l m n :=
  ad_push1 (by rw [← byRs_cat]; rfl) hx hy ho hb hd1 hd (by simpa [byRs] using hl) k
theorem al_appBv [hT : SlT P T e 1 bytes zs] {xs ys : List (UInt8)} (hx : Ag (lk .dead l) x (.sl 1 (byRs ys))) (hy : Ag (lk .dead l) y (.own u)) (ho : lk .gone m u = .row 1 e (byRs xs)) (hb : Nat.ble bytes 1000 = true) (hd : Nat.blt d cx.N = true) (hl : xs.length + ys.length ≤ 1000000000)
    (k : AL P ops cx Q rest ((d, .own n) :: l) ((n, .row 1 e (byRs (xs ++ ys))) :: (u, .gone) :: m) (n + 1)) :
    AL P ops cx Q (⟨some d, .call { callee := .builtin .append, args := #[y, x], argTypes := #[T, T] }, ty, pos, af, none⟩ :: rest) l m n :=
  al_app (wd := 1) (av := .sl 1 (byRs ys)) (rows := byRs xs) (news := byRs ys) [] (fun O hO => ⟨rfl, rfl⟩) byRs_cat hx hy ho trivial hb hd (by rw [byRs_len, byRs_len]; exact hl) k
theorem al_appnBv [hT : SlT P T e 1 bytes zs] {ys : List (UInt8)} (hx : Ag (lk .dead l) x (.sl 1 (byRs ys))) (hy : Ag (lk .dead l) y (.raw (.slice none 0 0))) (hb : Nat.ble bytes 1000 = true) (hd : Nat.blt d cx.N = true) (hl : ys.length ≤ 1000000000)
    (k : AL P ops cx Q rest ((d, .own n) :: l) ((n, .row 1 e (byRs ys)) :: m) (n + 1)) :
    AL P ops cx Q (⟨some d, .call { callee := .builtin .append, args := #[y, x], argTypes := #[T, T] }, ty, pos, af, none⟩ :: rest) l m n :=
  al_app0 (wd := 1) (av := .sl 1 (byRs ys)) (news := byRs ys) [] (fun O hO => ⟨rfl, rfl⟩) hx hy trivial hb hd (by rw [byRs_len]; exact hl) k
theorem al_appBf [hT : SlT P T e 1 bytes zs] {xs ys : List (UInt8)} {t : Nat} (hx : Ag (lk .dead l) x (.own t)) (ht : lk .gone m t = .froz 1 (byRs ys)) (hy : Ag (lk .dead l) y (.own u)) (ho : lk .gone m u = .row 1 e (byRs xs)) (hb : Nat.ble bytes 1000 = true) (hd : Nat.blt d cx.N = true) (hl : xs.length + ys.length ≤ 1000000000)
    (k : AL P ops cx Q rest ((d, .own n) :: l) ((n, .row 1 e (byRs (xs ++ ys))) :: (u, .gone) :: m) (n + 1)) :
    AL P ops cx Q (⟨some d, .call { callee := .builtin .append, args := #[y, x], argTypes := #[T, T] }, ty, pos, af, none⟩ :: rest) l m n :=
  al_app (wd := 1) (av := .own t) (rows := byRs xs) (news := byRs ys) [(t, .froz 1 (byRs ys))] (fun O hO => .inl hO.1) byRs_cat hx hy ho ⟨ht, trivial⟩ hb hd (by rw [byRs_len, byRs_len]; exact hl) k
theorem al_appnBf [hT : SlT P T e 1 bytes zs] {ys : List (UInt8)} {t : Nat} (hx : Ag (lk .dead l) x (.own t)) (ht : lk .gone m t = .froz 1 (byRs ys)) (hy : Ag (lk .dead l) y (.raw (.slice none 0 0))) (hb : Nat.ble bytes 1000 = true) (hd : Nat.blt d cx.N = true) (hl : ys.length ≤ 1000000000)
    (k : AL P ops cx Q rest ((d, .own n) :: l) ((n, .row 1 e (byRs ys)) :: m) (n + 1)) :
    AL P ops cx Q (⟨some d, .call { callee := .builtin .append, args := #[y, x], argTypes := #[T, T] }, ty, pos, af, none⟩ :: rest) l m n :=
  al_app0 (wd := 1) (av := .own t) (news := byRs ys) [(t, .froz 1 (byRs ys))] (fun O hO => .inl hO.1) hx hy ⟨ht, trivial⟩ hb hd (by rw [byRs_len]; exact hl) k
theorem al_appBr [hT : SlT P T e 1 bytes zs] {xs ys : List (UInt8)} {t : Nat} {e' : TypeId} (hx : Ag (lk .dead l) x (.own t)) (ht : lk .gone m t = .row 1 e' (byRs ys)) (hy : Ag (lk .dead l) y (.own u)) (ho : lk .gone m u = .row 1 e (byRs xs)) (hb : Nat.ble bytes 1000 = true) (hd : Nat.blt d cx.N = true) (hl : xs.length + ys.length ≤ 1000000000)
    (k : AL P ops cx Q rest ((d, .own n) :: l) ((n, .row 1 e (byRs (xs ++ ys))) :: (u, .gone) :: m) (n + 1)) :
    AL P ops cx Q (⟨some d, .call { callee := .builtin .append, args := #[y, x], argTypes := #[T, T] }, ty, pos, af, none⟩ :: rest) l m n :=
  al_app (wd := 1) (av := .own t) (rows := byRs xs) (news := byRs ys) [(t, .row 1 e' (byRs ys))] (fun O hO => (.inr ⟨e', hO.1⟩)) byRs_cat hx hy ho ⟨ht, trivial⟩ hb hd (by rw [byRs_len, byRs_len]; exact hl) k
theorem al_appnBr [hT : SlT P T e 1 bytes zs] {ys : List (UInt8)} {t : Nat} {e' : TypeId} (hx : Ag (lk .dead l) x (.own t)) (ht : lk .gone m t = .row 1 e' (byRs ys)) (hy : Ag (lk .dead l) y (.raw (.slice none 0 0))) (hb : Nat.ble bytes 1000 = true) (hd : Nat.blt d cx.N = true) (hl : ys.length ≤ 1000000000)
    (k : AL P ops cx Q rest ((d, .own n) :: l) ((n, .row 1 e (byRs ys)) :: m) (n + 1)) :
    AL P ops cx Q (⟨some d, .call { callee := .builtin .append, args := #[y, x], argTypes := #[T, T] }, ty, pos, af, none⟩ :: rest) l m n :=
  al_app0 (wd := 1) (av := .own t) (news := byRs ys) [(t, .row 1 e' (byRs ys))] (fun O hO => (.inr ⟨e', hO.1⟩)) hx hy ⟨ht, trivial⟩ hb hd (by rw [byRs_len]; exact hl) k
theorem lbRs_len {xs : List (Str × Str)} : (lbRs xs).length = xs.length := by simp [lbRs]
theorem lbRs_at {xs : List (Str × Str)} {k : Nat} {x : Str × Str} (h : xs[k]? = some x) : (lbRs xs)[k]? = some (lbR x) := by simp [lbRs, h]
theorem lbRs_nil : lbRs [] = [] := rfl
theorem lbRs_cat {xs ys : List (Str × Str)} : lbRs xs ++ lbRs ys = lbRs (xs ++ ys) := by simp [lbRs]
theorem lbRs_cut {xs : List (Str × Str)} {a b : Nat} : ((lbRs xs).take b).drop a = lbRs ((xs.take b).drop a) := by simp [lbRs, List.map_take, List.map_drop]
theorem lbRs_hd {xs : List (Str × Str)} {b : Nat} : ((lbRs xs).take b).drop 0 = lbRs (xs.take b) := by simp [lbRs, List.map_take]
theorem lbRs_tl {xs : List (Str × Str)} {a : Nat} : ((lbRs xs).take (lbRs xs).length).drop a = lbRs (xs.drop a) := by rw [List.take_length]; simp [lbRs, List.map_drop]
theorem lbRs_set {xs : List (Str × Str)} {k : Nat} {x : Str × Str} : (lbRs xs).set k (lbR x) = lbRs (xs.set k x) := by simp [lbRs, List.map_set]
theorem al_pushL [hT : SlT P T e 2 bytes zs] {xs : List (Str × Str)} {a b : Str} (hx : AgL (lk .dead l) [(x, .agg [.c (cS a), .c (cS b)])]) (hy : Ag (lk .dead ((d1, .own n) :: l)) y (.own u)) (ho : lk .gone ((n, .row 2 e [[cS a, cS b]]) :: m) u = .row 2 e (lbRs xs))
    (hb : Nat.ble bytes 1000 = true) (hd1 : Nat.blt d1 cx.N = true) (hd : Nat.blt d cx.N = true) (hl : xs.length ≤ 1000000000)
    (k : AL P ops cx Q rest ((d, .own (n + 1)) :: (d1, .own n) :: l) ((n + 1, .row 2 e (lbRs (xs ++ [(a, b)]))) :: (u, .gone) :: (n, .row 2 e [[cS a, cS b]]) :: m) (n + 1 + 1)) :
    AL P ops cx Q (⟨some d1, .buildSlice T 1 #[(0, x)], ty1, pos1, af1, none⟩ :: ⟨some d, .call { callee := .builtin .append, args := #[y, .tmp d1], argTypes := #[T, T] }, ty, pos, af, none⟩ :: rest) l m n :=
  al_push2 (by rw [← lbRs_cat]; rfl) hx hy ho hb hd1 hd (by simpa [lbRs] using hl) k
theorem al_pusheL [hT : SlT P T e 2 bytes zs] {a b : Str} (hx : AgL (lk .dead l) [(x, .agg [.c (cS a), .c (cS b)])]) (hy : Ag (lk .dead ((d1, .own n) :: l)) y (.own u)) (ho : lk .gone ((n, .row 2 e [[cS a, cS b]]) :: m) u = .row 2 e [])
    (hb : Nat.ble bytes 1000 = true) (hd1 : Nat.blt d1 cx.N = true) (hd : Nat.blt d cx.N = true)
    (k : AL P ops cx Q rest ((d, .own (n + 1)) :: (d1, .own n) :: l) ((n + 1, .row 2 e (lbRs [(a, b)])) :: (u, .gone) :: (n, .row 2 e [[cS a, cS b]]) :: m) (n + 1 + 1)) :
    AL P ops cx Q (⟨some d1, .buildSlice T 1 #[(0, x)], ty1, pos1, af1, none⟩ :: ⟨some d, .call { callee := .builtin .append, args := #[y, .tmp d1], argTypes := #[T, T] }, ty, pos, af, none⟩ :: rest) l m n :=
  al_push2 rfl hx hy ho hb hd1 hd (by simp) k
theorem ad_pushL {ol : List Oper} {done : List Keys} [hT : SlT P T e 2 bytes zs] {xs : List (Str × Str)} {a b : Str} (hx : AgL (lk .dead l) [(x, .agg [.c (cS a), .c (cS b)])]) (hy : Ag (lk .dead ((d1, .own n) :: l)) y (.own u)) (ho : lk .gone ((n, .row 2 e [[cS a, cS b]]) :: m) u = .row 2 e (lbRs xs))
    (hb : Nat.ble bytes 1000 = true) (hd1 : Nat.blt d1 cx.N = true) (hd : Nat.blt d cx.N = true) (hl : xs.length ≤ 1000000000)
    (k : AD P ol cx Q (⟨rtmps [(y, .own u), (.tmp d1, .own n)], [d], [u, n], [n + 1, u], [n + 1]⟩ :: ⟨rtmps [(x, .agg [.c (cS a), .c (cS b)])], [d1], [], [n], [n]⟩ :: done) rest ((d, .own (n + 1)) :: (d1, .own n) :: l) ((n + 1, .row 2 e (lbRs (xs ++ [(a, b)]))) :: (u, .gone) :: (n, .row 2 e [[cS a, cS b]]) :: m) (n + 1 + 1)) :
    AD P ol cx Q done (⟨some d1, .buildSlice T 1 #[(0, x)], ty1, pos1, af1, none⟩ :: ⟨some d, .call { callee := .builtin .append, args := #[y, .tmp d1], argTypes := #[T, T] }, ty, pos, af, none⟩ :: rest) l m n :=
  ad_push2 (by rw [← lbRs_cat]; rfl) hx hy ho hb hd1 hd (by simpa [lbRs] using hl) k
theorem al_appLv [hT : SlT P T e 2 bytes zs] {xs ys : List (Str × Str)} (hx : Ag (lk .dead l) x (.sl 2 (lbRs ys))) (hy : Ag (lk .dead l) y (.own u)) (ho : lk .gone m u = .row 2 e (lbRs xs)) (hb : Nat.ble bytes 1000 = true) (hd : Nat.blt d cx.N = true) (hl : xs.length + ys.length ≤ 1000000000)
    (k : AL P ops cx Q rest ((d, .own n) :: l) ((n, .row 2 e (lbRs (xs ++ ys))) :: (u, .gone) :: m) (n + 1)) :
    AL P ops cx Q (⟨some d, .call { callee := .builtin .append, args := #[y, x], argTypes := #[T, T] }, ty, pos, af, none⟩ :: rest) l m n :=
  al_app (wd := 2) (av := .sl 2 (lbRs ys)) (rows := lbRs xs) (news := lbRs ys) [] (fun O hO => ⟨rfl, rfl⟩) lbRs_cat hx hy ho trivial hb hd (by rw [lbRs_len, lbRs_len]; exact hl) k
theorem al_appnLv [hT : SlT P T e 2 bytes zs] {ys : List (Str × Str)} (hx : Ag (lk .dead l) x (.sl 2 (lbRs ys))) (hy : Ag (lk .dead l) y (.raw (.slice none 0 0))) (hb : Nat.ble bytes 1000 = true) (hd : Nat.blt d cx.N = true) (hl : ys.length ≤ 1000000000)
    (k : AL P ops cx Q rest ((d, .own n) :: l) ((n, .row 2 e (lbRs ys)) :: m) (n + 1)) :
    AL P ops cx Q (⟨some d, .call { callee := .builtin .append, args := #[y, x], argTypes := #[T, T] }, ty, pos, af, none⟩ :: rest) l m n :=
  al_app0 (wd := 2) (av := .sl 2 (lbRs ys)) (news := lbRs ys) [] (fun O hO => ⟨rfl, rfl⟩) hx hy trivial hb hd (by rw [lbRs_len]; exact hl) k
theorem al_appLf [hT : SlT P T e 2 bytes zs] {xs ys : List (Str × Str)} {t : Nat} (hx : Ag (lk .dead l) x (.own t)) (ht : lk .gone m t = .froz 2 (lbRs ys)) (hy : Ag (lk .dead l) y (.own u)) (ho : lk .gone m u = .row 2 e (lbRs xs)) (hb : Nat.ble bytes 1000 = true) (hd : Nat.blt d cx.N = true) (hl : xs.length + ys.length ≤ 1000000000)
    (k : AL P ops cx Q rest ((d, .own n) :: l) ((n, .row 2 e (lbRs (xs ++ ys))) :: (u, .gone) :: m) (n + 1)) :
    AL P ops cx Q (⟨some d, .call { callee := .builtin .append, args := #[y, x], argTypes := #[T, T] }, ty, pos, af, none⟩ :: rest) l m n :=
  al_app (wd := 2) (av := .own t) (rows := lbRs xs) (news := lbRs ys) [(t, .froz 2 (lbRs ys))] (fun O hO => .inl hO.1) lbRs_cat hx hy ho ⟨ht, trivial⟩ hb hd (by rw [lbRs_len, lbRs_len]; exact hl) k
theorem al_appnLf [hT : SlT P T e 2 bytes zs] {ys : List (Str × Str)} {t : Nat} (hx : Ag (lk .dead l) x (.own t)) (ht : lk .gone m t = .froz 2 (lbRs ys)) (hy : Ag (lk .dead l) y (.raw (.slice none 0 0))) (hb : Nat.ble bytes 1000 = true) (hd : Nat.blt d cx.N = true) (hl : ys.length ≤ 1000000000)
    (k : AL P ops cx Q rest ((d, .own n) :: l) ((n, .row 2 e (lbRs ys)) :: m) (n + 1)) :
    AL P ops cx Q (⟨some d, .call { callee := .builtin .append, args := #[y, x], argTypes := #[T, T] }, ty, pos, af, none⟩ :: rest) l m n :=
  al_app0 (wd := 2) (av := .own t) (news := lbRs ys) [(t, .froz 2 (lbRs ys))] (fun O hO => .inl hO.1) hx hy ⟨ht, trivial⟩ hb hd (by rw [lbRs_len]; exact hl) k
theorem al_appLr [hT : SlT P T e 2 bytes zs] {xs ys : List (Str × Str)} {t : Nat} {e' : TypeId} (hx : Ag (lk .dead l) x (.own t)) (ht : lk .gone m t = .row 2 e' (lbRs ys)) (hy : Ag (lk .dead l) y (.own u)) (ho : lk .gone m u = .row 2 e (lbRs xs)) (hb : Nat.ble bytes 1000 = true) (hd : Nat.blt d cx.N = true) (hl : xs.length + ys.length ≤ 1000000000)
    (k : AL P ops cx Q rest ((d, .own n) :: l) ((n, .row 2 e (lbRs (xs ++ ys))) :: (u, .gone) :: m) (n + 1)) :
    AL P ops cx Q (⟨some d, .call { callee := .builtin .append, args := #[y, x], argTypes := #[T, T] }, ty, pos, af, none⟩ :: rest) l m n :=
  al_app (wd := 2) (av := .own t) (rows := lbRs xs) (news := lbRs ys) [(t, .row 2 e' (lbRs ys))] (fun O hO => (.inr ⟨e', hO.1⟩)) lbRs_cat hx hy ho ⟨ht, trivial⟩ hb hd (by rw [lbRs_len, lbRs_len]; exact hl) k
theorem al_appnLr [hT : SlT P T e 2 bytes zs] {ys : List (Str × Str)} {t : Nat} {e' : TypeId} (hx : Ag (lk .dead l) x (.own t)) (ht : lk .gone m t = .row 2 e' (lbRs ys)) (hy : Ag (lk .dead l) y (.raw (.slice none 0 0))) (hb : Nat.ble bytes 1000 = true) (hd : Nat.blt d cx.N = true) (hl : ys.length ≤ 1000000000)
    (k : AL P ops cx Q rest ((d, .own n) :: l) ((n, .row 2 e (lbRs ys)) :: m) (n + 1)) :
    AL P ops cx Q (⟨some d, .call { callee := .builtin .append, args := #[y, x], argTypes := #[T, T] }, ty, pos, af, none⟩ :: rest) l m n :=
  al_app0 (wd := 2) (av := .own t) (news := lbRs ys) [(t, .row 2 e' (lbRs ys))] (fun O hO => (.inr ⟨e', hO.1⟩)) hx hy ⟨ht, trivial⟩ hb hd (by rw [lbRs_len]; exact hl) k
theorem stRs_len {xs : List (Str)} : (stRs xs).length = xs.length := by simp [stRs]
theorem stRs_at {xs : List (Str)} {k : Nat} {x : Str} (h : xs[k]? = some x) : (stRs xs)[k]? = some (stR x) := by simp [stRs, h]
theorem stRs_nil : stRs [] = [] := rfl
theorem stRs_cat {xs ys : List (Str)} : stRs xs ++ stRs ys = stRs (xs ++ ys) := by simp [stRs]
theorem stRs_cut {xs : List (Str)} {a b : Nat} : ((stRs xs).take b).drop a = stRs ((xs.take b).drop a) := by simp [stRs, List.map_take, List.map_drop]
theorem stRs_hd {xs : List (Str)} {b : Nat} : ((stRs xs).take b).drop 0 = stRs (xs.take b) := by simp [stRs, List.map_take]
theorem stRs_tl {xs : List (Str)} {a : Nat} : ((stRs xs).take (stRs xs).length).drop a = stRs (xs.drop a) := by rw [List.take_length]; simp [stRs, List.map_drop]
theorem stRs_set {xs : List (Str)} {k : Nat} {x : Str} : (stRs xs).set k (stR x) = stRs (xs.set k x) := by simp [stRs, List.map_set]
theorem al_pushS [hT : SlT P T e 1 bytes zs] {xs : List (Str)} {a : Str} (hx : AgL (lk .dead l) [(x, .str a)]) (hy : Ag (lk .dead ((d1, .own n) :: l)) y (.own u)) (ho : lk .gone ((n, .row 1 e [[cS a]]) :: m) u = .row 1 e (stRs xs))
    (hb : Nat.ble bytes 1000 = true) (hd1 : Nat.blt d1 cx.N = true) (hd : Nat.blt d cx.N = true) (hl : xs.length ≤ 1000000000)
    (k : AL P ops cx Q rest ((d, .own (n + 1)) :: (d1, .own n) :: l) ((n + 1, .row 1 e (stRs (xs ++ [a]))) :: (u, .gone) :: (n, .row 1 e [[cS a]]) :: m) (n + 1 + 1)) :
    AL P ops cx Q (⟨some d1, .buildSlice T 1 #[(0, x)], ty1, pos1, af1, none⟩ :: ⟨some d, .call { callee := .builtin .append, args := #[y, .tmp d1], argTypes := #[T, T] }, ty, pos, af, none⟩ :: rest) l m n :=
  al_push1 (by rw [← stRs_cat]; rfl) hx hy ho hb hd1 hd (by simpa [stRs] using hl) k
theorem al_pusheS [hT : SlT P T e 1 bytes zs] {a : Str} (hx : AgL (lk .dead l) [(x, .str a)]) (hy : Ag (lk .dead ((d1, .own n) :: l)) y (.own u)) (ho : lk .gone ((n, .row 1 e [[cS a]]) :: m) u = .row 1 e [])
    (hb : Nat.ble bytes 1000 = true) (hd1 : Nat.blt d1 cx.N = true) (hd : Nat.blt d cx.N = true)
    (k : AL P ops cx Q rest ((d, .own (n + 1)) :: (d1, .own n) :: l) ((n + 1, .row 1 e (stRs [a])) :: (u, .gone) :: (n, .row 1 e [[cS a]]) :: m) (n + 1 + 1)) :
    AL P ops cx Q (⟨some d1, .buildSlice T 1 #[(0, x)], ty1, pos1, af1, none⟩ :: ⟨some d, .call { callee := .builtin .append, args := #[y, .tmp d1], argTypes := #[T, T] }, ty, pos, af, none⟩ :: rest) l m n :=
  al_push1 rfl hx hy ho hb hd1 hd (by simp) k
theorem ad_pushS {ol : List Oper} {done : List Keys} [hT : SlT P T e 1 bytes zs] {xs : List (Str)} {a : Str} (hx : AgL (lk .dead l) [(x, .str a)]) (hy : Ag (lk .dead ((d1, .own n) :: l)) y (.own u)) (ho : lk .gone ((n, .row 1 e [[cS a]]) :: m) u = .row 1 e (stRs xs))
    (hb : Nat.ble bytes 1000 = true) (hd1 : Nat.blt d1 cx.N = true) (hd : Nat.blt d cx.N = true) (hl : xs.length ≤ 1000000000)
    (k : AD P ol cx Q (⟨rtmps [(y, .own u), (.tmp d1, .own n)], [d], [u, n], [n + 1, u], [n + 1]⟩ :: ⟨rtmps [(x, .str a)], [d1], [], [n], [n]⟩ :: done) rest ((d, .own (n + 1)) :: (d1, .own n) :: l) ((n + 1, .row 1 e (stRs (xs ++ [a]))) :: (u, .gone) :: (n, .row 1 e [[cS a]]) :: m) (n + 1 + 1)) :
    AD P ol cx Q done (⟨some d1, .buildSlice T 1 #[(0, x)], ty1, pos1, af1, none⟩ :: ⟨some d, .call { callee := .builtin .append, args := #[y, .tmp d1], argTypes := #[T, T] }, ty, pos, af, none⟩ :: rest) l m n :=
  ad_push1 (by rw [← stRs_cat]; rfl) hx hy ho hb hd1 hd (by simpa [stRs] using hl) k
theorem al_appSv [hT : SlT P T e 1 bytes zs] {xs ys : List (Str)} (hx : Ag (lk .dead l) x (.sl 1 (stRs ys))) (hy : Ag (lk .dead l) y (.own u)) (ho : lk .gone m u = .row 1 e (stRs xs)) (hb : Nat.ble bytes 1000 = true) (hd : Nat.blt d cx.N = true) (hl : xs.length + ys.length ≤ 1000000000)
    (k : AL P ops cx Q rest ((d, .own n) :: l) ((n, .row 1 e (stRs (xs ++ ys))) :: (u, .gone) :: m) (n + 1)) :
    AL P ops cx Q (⟨some d, .call { callee := .builtin .append, args := #[y, x], argTypes := #[T, T] }, ty, pos, af, none⟩ :: rest) l m n :=
  al_app (wd := 1) (av := .sl 1 (stRs ys)) (rows := stRs xs) (news := stRs ys) [] (fun O hO => ⟨rfl, rfl⟩) stRs_cat hx hy ho trivial hb hd (by rw [stRs_len, stRs_len]; exact hl) k
theorem al_appnSv [hT : SlT P T e 1 bytes zs] {ys : List (Str)} (hx : Ag (lk .dead l) x (.sl 1 (stRs ys))) (hy : Ag (lk .dead l) y (.raw (.slice none 0 0))) (hb : Nat.ble bytes 1000 = true) (hd : Nat.blt d cx.N = true) (hl : ys.length ≤ 1000000000)
    (k : AL P ops cx Q rest ((d, .own n) :: l) ((n, .row 1 e (stRs ys)) :: m) (n + 1)) :
    AL P ops cx Q (⟨some d, .call { callee := .builtin .append, args := #[y, x], argTypes := #[T, T] }, ty, pos, af, none⟩ :: rest) l m n :=
  al_app0 (wd := 1) (av := .sl 1 (stRs ys)) (news := stRs ys) [] (fun O hO => ⟨rfl, rfl⟩) hx hy trivial hb hd (by rw [stRs_len]; exact hl) k
theorem al_appSf [hT : SlT P T e 1 bytes zs] {xs ys : List (Str)} {t : Nat} (hx : Ag (lk .dead l) x (.own t)) (ht : lk .gone m t = .froz 1 (stRs ys)) (hy : Ag (lk .dead l) y (.own u)) (ho : lk .gone m u = .row 1 e (stRs xs)) (hb : Nat.ble bytes 1000 = true) (hd : Nat.blt d cx.N = true) (hl : xs.length + ys.length ≤ 1000000000)
    (k : AL P ops cx Q rest ((d, .own n) :: l) ((n, .row 1 e (stRs (xs ++ ys))) :: (u, .gone) :: m) (n + 1)) :
    AL P ops cx Q (⟨some d, .call { callee := .builtin .append, args := #[y, x], argTypes := #[T, T] }, ty, pos, af, none⟩ :: rest) l m n :=
  al_app (wd := 1) (av := .own t) (rows := stRs xs) (news := stRs ys) [(t, .froz 1 (stRs ys))] (fun O hO => .inl hO.1) stRs_cat hx hy ho ⟨ht, trivial⟩ hb hd (by rw [stRs_len, stRs_len]; exact hl) k
theorem al_appnSf [hT : SlT P T e 1 bytes zs] {ys : List (Str)} {t : Nat} (hx : Ag (lk .dead l) x (.own t)) (ht : lk .gone m t = .froz 1 (stRs ys)) (hy : Ag (lk .dead l) y (.raw (.slice none 0 0))) (hb : Nat.ble bytes 1000 = true) (hd : Nat.blt d cx.N = true) (hl : ys.length ≤ 1000000000)
    (k : AL P ops cx Q rest ((d, .own n) :: l) ((n, .row 1 e (stRs ys)) :: m) (n + 1)) :
    AL P ops cx Q (⟨some d, .call { callee := .builtin .append, args := #[y, x], argTypes := #[T, T] }, ty, pos, af, none⟩ :: rest) l m n :=
  al_app0 (wd := 1) (av := .own t) (news := stRs ys) [(t, .froz 1 (stRs ys))] (fun O hO => .inl hO.1) hx hy ⟨ht, trivial⟩ hb hd (by rw [stRs_len]; exact hl) k
theorem al_appSr [hT : SlT P T e 1 bytes zs] {xs ys : List (Str)} {t : Nat} {e' : TypeId} (hx : Ag (lk .dead l) x (.own t)) (ht : lk .gone m t = .row 1 e' (stRs ys)) (hy : Ag (lk .dead l) y (.own u)) (ho : lk .gone m u = .row 1 e (stRs xs)) (hb : Nat.ble bytes 1000 = true) (hd : Nat.blt d cx.N = true) (hl : xs.length + ys.length ≤ 1000000000)
    (k : AL P ops cx Q rest ((d, .own n) :: l) ((n, .row 1 e (stRs (xs ++ ys))) :: (u, .gone) :: m) (n + 1)) :
    AL P ops cx Q (⟨some d, .call { callee := .builtin .append, args := #[y, x], argTypes := #[T, T] }, ty, pos, af, none⟩ :: rest) l m n :=
  al_app (wd := 1) (av := .own t) (rows := stRs xs) (news := stRs ys) [(t, .row 1 e' (stRs ys))] (fun O hO => (.inr ⟨e', hO.1⟩)) stRs_cat hx hy ho ⟨ht, trivial⟩ hb hd (by rw [stRs_len, stRs_len]; exact hl) k
theorem al_appnSr [hT : SlT P T e 1 bytes zs] {ys : List (Str)} {t : Nat} {e' : TypeId} (hx : Ag (lk .dead l) x (.own t)) (ht : lk .gone m t = .row 1 e' (stRs ys)) (hy : Ag (lk .dead l) y (.raw (.slice none 0 0))) (hb : Nat.ble bytes 1000 = true) (hd : Nat.blt d cx.N = true) (hl : ys.length ≤ 1000000000)
    (k : AL P ops cx Q rest ((d, .own n) :: l) ((n, .row 1 e (stRs ys)) :: m) (n + 1)) :
    AL P ops cx Q (⟨some d, .call { callee := .builtin .append, args := #[y, x], argTypes := #[T, T] }, ty, pos, af, none⟩ :: rest) l m n :=
  al_app0 (wd := 1) (av := .own t) (news := stRs ys) [(t, .row 1 e' (stRs ys))] (fun O hO => (.inr ⟨e', hO.1⟩)) hx hy ⟨ht, trivial⟩ hb hd (by rw [stRs_len]; exact hl) k
theorem rcRs_len {xs : List (Int × Int × Int)} : (rcRs xs).length = xs.length := by simp [rcRs]
theorem rcRs_at {xs : List (Int × Int × Int)} {k : Nat} {x : Int × Int × Int} (h : xs[k]? = some x) : (rcRs xs)[k]? = some (rcR x) := by simp [rcRs, h]
theorem rcRs_nil : rcRs [] = [] := rfl
theorem rcRs_cat {xs ys : List (Int × Int × Int)} : rcRs xs ++ rcRs ys = rcRs (xs ++ ys) := by simp [rcRs]
theorem rcRs_cut {xs : List (Int × Int × Int)} {a b : Nat} : ((rcRs xs).take b).drop a = rcRs ((xs.take b).drop a) := by simp [rcRs, List.map_take, List.map_drop]
theorem rcRs_hd {xs : List (Int × Int × Int)} {b : Nat} : ((rcRs xs).take b).drop 0 = rcRs (xs.take b) := by simp [rcRs, List.map_take]
theorem rcRs_tl {xs : List (Int × Int × Int)} {a : Nat} : ((rcRs xs).take (rcRs xs).length).drop a = rcRs (xs.drop a) := by rw [List.take_length]; simp [rcRs, List.map_drop]
theorem rcRs_set {xs : List (Int × Int × Int)} {k : Nat} {x : Int × Int × Int} : (rcRs xs).set k (rcR x) = rcRs (xs.set k x) := by simp [rcRs, List.map_set]
theorem al_pushR [hT : SlT P T e 3 bytes zs] {xs : List (Int × Int × Int)} {a b c : Int} (hx : AgL (lk .dead l) [(x, .agg [.c (cI a), .c (cI b), .c (cI c)])]) (hy : Ag (lk .dead ((d1, .own n) :: l)) y (.own u)) (ho : lk .gone ((n, .row 3 e [[cI a, cI b, cI c]]) :: m) u = .row 3 e (rcRs xs))
    (hb : Nat.ble bytes 1000 = true) (hd1 : Nat.blt d1 cx.N = true) (hd : Nat.blt d cx.N = true) (hl : xs.length ≤ 1000000000)
    (k : AL P ops cx Q rest ((d, .own (n + 1)) :: (d1, .own n) :: l) ((n + 1, .row 3 e (rcRs (xs ++ [(a, b, c)]))) :: (u, .gone) :: (n, .row 3 e [[cI a, cI b, cI c]]) :: m) (n + 1 + 1)) :
    AL P ops cx Q (⟨some d1, .buildSlice T 1 #[(0, x)], ty1, pos1, af1, none⟩ :: ⟨some d, .call { callee := .builtin .append, args := #[y, .tmp d1], argTypes := #[T, T] }, ty, pos, af, none⟩ :: rest) l m n :=
  al_push3 (by rw [← rcRs_cat]; rfl) hx hy ho hb hd1 hd (by simpa [rcRs] using hl) k
theorem al_pusheR [hT : SlT P T e 3 bytes zs] {a b c : Int} (hx : AgL (lk .dead l) [(x, .agg [.c (cI a), .c (cI b), .c (cI c)])]) (hy : Ag (lk .dead ((d1, .own n) :: l)) y (.own u)) (ho : lk .gone ((n, .row 3 e [[cI a, cI b, cI c]]) :: m) u = .row 3 e [])
    (hb : Nat.ble bytes 1000 = true) (hd1 : Nat.blt d1 cx.N = true) (hd : Nat.blt d cx.N = true)
    (k : AL P ops cx Q rest ((d, .own (n + 1)) :: (d1, .own n) :: l) ((n + 1, .row 3 e (rcRs [(a, b, c)])) :: (u, .gone) :: (n, .row 3 e [[cI a, cI b, cI c]]) :: m) (n + 1 + 1)) :
    AL P ops cx Q (⟨some d1, .buildSlice T 1 #[(0, x)], ty1, pos1, af1, none⟩ :: ⟨some d, .call { callee := .builtin .append, args := #[y, .tmp d1], argTypes := #[T, T] }, ty, pos, af, none⟩ :: rest) l m n :=
  al_push3 rfl hx hy ho hb hd1 hd (by simp) k
theorem al_appRv [hT : SlT P T e 3 bytes zs] {xs ys : List (Int × Int × Int)} (hx : Ag (lk .dead l) x (.sl 3 (rcRs ys))) (hy : Ag (lk .dead l) y (.own u)) (ho : lk .gone m u = .row 3 e (rcRs xs)) (hb : Nat.ble bytes 1000 = true) (hd : Nat.blt d cx.N = true) (hl : xs.length + ys.length ≤ 1000000000)
    (k : AL P ops cx Q rest ((d, .own n) :: l) ((n, .row 3 e (rcRs (xs ++ ys))) :: (u, .gone) :: m) (n + 1)) :
    AL P ops cx Q (⟨some d, .call { callee := .builtin .append, args := #[y, x], argTypes := #[T, T] }, ty, pos, af, none⟩ :: rest) l m n :=
  al_app (wd := 3) (av := .sl 3 (rcRs ys)) (rows := rcRs xs) (news := rcRs ys) [] (fun O hO => ⟨rfl, rfl⟩) rcRs_cat hx hy ho trivial hb hd (by rw [rcRs_len, rcRs_len]; exact hl) k
theorem al_appnRv [hT : SlT P T e 3 bytes zs] {ys : List (Int × Int × Int)} (hx : Ag (lk .dead l) x (.sl 3 (rcRs ys))) (hy : Ag (lk .dead l) y (.raw (.slice none 0 0))) (hb : Nat.ble bytes 1000 = true) (hd : Nat.blt d cx.N = true) (hl : ys.length ≤ 1000000000)
    (k : AL P ops cx Q rest ((d, .own n) :: l) ((n, .row 3 e (rcRs ys)) :: m) (n + 1)) :
    AL P ops cx Q (⟨some d, .call { callee := .builtin .append, args := #[y, x], argTypes := #[T, T] }, ty, pos, af, none⟩ :: rest) l m n :=
  al_app0 (wd := 3) (av := .sl 3 (rcRs ys)) (news := rcRs ys) [] (fun O hO => ⟨rfl, rfl⟩) hx hy trivial hb hd (by rw [rcRs_len]; exact hl) k
theorem al_appRf [hT : SlT P T e 3 bytes zs] {xs ys : List (Int × Int × Int)} {t : Nat} (hx : Ag (lk .dead l) x (.own t)) (ht : lk .gone m t = .froz 3 (rcRs ys)) (hy : Ag (lk .dead l) y (.own u)) (ho : lk .gone m u = .row 3 e (rcRs xs)) (hb : Nat.ble bytes 1000 = true) (hd : Nat.blt d cx.N = true) (hl : xs.length + ys.length ≤ 1000000000)
    (k : AL P ops cx Q rest ((d, .own n) :: l) ((n, .row 3 e (rcRs (xs ++ ys))) :: (u, .gone) :: m) (n + 1)) :
    AL P ops cx Q (⟨some d, .call { callee := .builtin .append, args := #[y, x], argTypes := #[T, T] }, ty, pos, af, none⟩ :: rest) l m n :=
  al_app (wd := 3) (av := .own t) (rows := rcRs xs) (news := rcRs ys) [(t, .froz 3 (rcRs ys))] (fun O hO => .inl hO.1) rcRs_cat hx hy ho ⟨ht, trivial⟩ hb hd (by rw [rcRs_len, rcRs_len]; exact hl) k
theorem al_appnRf [hT : SlT P T e 3 bytes zs] {ys : List (Int × Int × Int)} {t : Nat} (hx : Ag (lk .dead l) x (.own t)) (ht : lk .gone m t = .froz 3 (rcRs ys)) (hy : Ag (lk .dead l) y (.raw (.slice none 0 0))) (hb : Nat.ble bytes 1000 = true) (hd : Nat.blt d cx.N = true) (hl : ys.length ≤ 1000000000)
    (k : AL P ops cx Q rest ((d, .own n) :: l) ((n, .row 3 e (rcRs ys)) :: m) (n + 1)) :
    AL P ops cx Q (⟨some d, .call { callee := .builtin .append, args := #[y, x], argTypes := #[T, T] }, ty, pos, af, none⟩ :: rest) l m n :=
  al_app0 (wd := 3) (av := .own t) (news := rcRs ys) [(t, .froz 3 (rcRs ys))] (fun O hO => .inl hO.1) hx hy ⟨ht, trivial⟩ hb hd (by rw [rcRs_len]; exact hl) k
theorem al_appRr [hT : SlT P T e 3 bytes zs] {xs ys : List (Int × Int × Int)} {t : Nat} {e' : TypeId} (hx : Ag (lk .dead l) x (.own t)) (ht : lk .gone m t = .row 3 e' (rcRs ys)) (hy : Ag (lk .dead l) y (.own u)) (ho : lk .gone m u = .row 3 e (rcRs xs)) (hb : Nat.ble bytes 1000 = true) (hd : Nat.blt d cx.N = true) (hl : xs.length + ys.length ≤ 1000000000)
    (k : AL P ops cx Q rest ((d, .own n) :: l) ((n, .row 3 e (rcRs (xs ++ ys))) :: (u, .gone) :: m) (n + 1)) :
    AL P ops cx Q (⟨some d, .call { callee := .builtin .append, args := #[y, x], argTypes := #[T, T] }, ty, pos, af, none⟩ :: rest) l m n :=
  al_app (wd := 3) (av := .own t) (rows := rcRs xs) (news := rcRs ys) [(t, .row 3 e' (rcRs ys))] (fun O hO => (.inr ⟨e', hO.1⟩)) rcRs_cat hx hy ho ⟨ht, trivial⟩ hb hd (by rw [rcRs_len, rcRs_len]; exact hl) k
theorem al_appnRr [hT : SlT P T e 3 bytes zs] {ys : List (Int × Int × Int)} {t : Nat} {e' : TypeId} (hx : Ag (lk .dead l) x (.own t)) (ht : lk .gone m t = .row 3 e' (rcRs ys)) (hy : Ag (lk .dead l) y (.raw (.slice none 0 0))) (hb : Nat.ble bytes 1000 = true) (hd : Nat.blt d cx.N = true) (hl : ys.length ≤ 1000000000)
    (k : AL P ops cx Q rest ((d, .own n) :: l) ((n, .row 3 e (rcRs ys)) :: m) (n + 1)) :
    AL P ops cx Q (⟨some d, .call { callee := .builtin .append, args := #[y, x], argTypes := #[T, T] }, ty, pos, af, none⟩ :: rest) l m n :=
  al_app0 (wd := 3) (av := .own t) (news := rcRs ys) [(t, .row 3 e' (rcRs ys))] (fun O hO => (.inr ⟨e', hO.1⟩)) hx hy ⟨ht, trivial⟩ hb hd (by rw [rcRs_len]; exact hl) k
theorem lcRs_len {xs : List (List (Str × Str))} : (lcRs xs).length = xs.length := by simp [lcRs]
theorem lcRs_at {xs : List (List (Str × Str))} {k : Nat} {x : List (Str × Str)} (h : xs[k]? = some x) : (lcRs xs)[k]? = some (lcR x) := by simp [lcRs, h]
theorem lcRs_nil : lcRs [] = [] := rfl
theorem lcRs_cat {xs ys : List (List (Str × Str))} : lcRs xs ++ lcRs ys = lcRs (xs ++ ys) := by simp [lcRs]
theorem lcRs_cut {xs : List (List (Str × Str))} {a b : Nat} : ((lcRs xs).take b).drop a = lcRs ((xs.take b).drop a) := by simp [lcRs, List.map_take, List.map_drop]
theorem lcRs_hd {xs : List (List (Str × Str))} {b : Nat} : ((lcRs xs).take b).drop 0 = lcRs (xs.take b) := by simp [lcRs, List.map_take]
theorem lcRs_tl {xs : List (List (Str × Str))} {a : Nat} : ((lcRs xs).take (lcRs xs).length).drop a = lcRs (xs.drop a) := by rw [List.take_length]; simp [lcRs, List.map_drop]
theorem lcRs_set {xs : List (List (Str × Str))} {k : Nat} {x : List (Str × Str)} : (lcRs xs).set k (lcR x) = lcRs (xs.set k x) := by simp [lcRs, List.map_set]
theorem al_pushC [hT : SlT P T e 1 bytes zs] {xs : List (List (Str × Str))} {a : List (Str × Str)} (hx : AgL (lk .dead l) [(x, .sl 2 (lbRs a))]) (hy : Ag (lk .dead ((d1, .own n) :: l)) y (.own u)) (ho : lk .gone ((n, .row 1 e [[.sl 2 (lbRs a)]]) :: m) u = .row 1 e (lcRs xs))
    (hb : Nat.ble bytes 1000 = true) (hd1 : Nat.blt d1 cx.N = true) (hd : Nat.blt d cx.N = true) (hl : xs.length ≤ 1000000000)
    (k : AL P ops cx Q rest ((d, .own (n + 1)) :: (d1, .own n) :: l) ((n + 1, .row 1 e (lcRs (xs ++ [a]))) :: (u, .gone) :: (n, .row 1 e [[.sl 2 (lbRs a)]]) :: m) (n + 1 + 1)) :
    AL P ops cx Q (⟨some d1, .buildSlice T 1 #[(0, x)], ty1, pos1, af1, none⟩ :: ⟨some d, .call { callee := .builtin .append, args := #[y, .tmp d1], argTypes := #[T, T] }, ty, pos, af, none⟩ :: rest) l m n :=
  al_push1 (by rw [← lcRs_cat]; rfl) hx hy ho hb hd1 hd (by simpa [lcRs] using hl) k
theorem al_pusheC [hT : SlT P T e 1 bytes zs] {a : List (Str × Str)} (hx : AgL (lk .dead l) [(x, .sl 2 (lbRs a))]) (hy : Ag (lk .dead ((d1, .own n) :: l)) y (.own u)) (ho : lk .gone ((n, .row 1 e [[.sl 2 (lbRs a)]]) :: m) u = .row 1 e [])
    (hb : Nat.ble bytes 1000 = true) (hd1 : Nat.blt d1 cx.N = true) (hd : Nat.blt d cx.N = true)
    (k : AL P ops cx Q rest ((d, .own (n + 1)) :: (d1, .own n) :: l) ((n + 1, .row 1 e (lcRs [a])) :: (u, .gone) :: (n, .row 1 e [[.sl 2 (lbRs a)]]) :: m) (n + 1 + 1)) :
    AL P ops cx Q (⟨some d1, .buildSlice T 1 #[(0, x)], ty1, pos1, af1, none⟩ :: ⟨some d, .call { callee := .builtin .append, args := #[y, .tmp d1], argTypes := #[T, T] }, ty, pos, af, none⟩ :: rest) l m n :=
  al_push1 rfl hx hy ho hb hd1 hd (by simp) k
theorem ad_pushC {ol : List Oper} {done : List Keys} [hT : SlT P T e 1 bytes zs] {xs : List (List (Str × Str))} {a : List (Str × Str)} (hx : AgL (lk .dead l) [(x, .sl 2 (lbRs a))]) (hy : Ag (lk .dead ((d1, .own n) :: l)) y (.own u)) (ho : lk .gone ((n, .row 1 e [[.sl 2 (lbRs a)]]) :: m) u = .row 1 e (lcRs xs))
    (hb : Nat.ble bytes 1000 = true) (hd1 : Nat.blt d1 cx.N = true) (hd : Nat.blt d cx.N = true) (hl : xs.length ≤ 1000000000)
    (k : AD P ol cx Q (⟨rtmps [(y, .own u), (.tmp d1, .own n)], [d], [u, n], [n + 1, u], [n + 1]⟩ :: ⟨rtmps [(x, .sl 2 (lbRs a))], [d1], [], [n], [n]⟩ :: done) rest ((d, .own (n + 1)) :: (d1, .own n) :: l) ((n + 1, .row 1 e (lcRs (xs ++ [a]))) :: (u, .gone) :: (n, .row 1 e [[.sl 2 (lbRs a)]]) :: m) (n + 1 + 1)) :
    AD P ol cx Q done (⟨some d1, .buildSlice T 1 #[(0, x)], ty1, pos1, af1, none⟩ :: ⟨some d, .call { callee := .builtin .append, args := #[y, .tmp d1], argTypes := #[T, T] }, ty, pos, af, none⟩ :: rest) l m n :=
  ad_push1 (by rw [← lcRs_cat]; rfl) hx hy ho hb hd1 hd (by simpa [lcRs] using hl) k
theorem al_appCv [hT : SlT P T e 1 bytes zs] {xs ys : List (List (Str × Str))} (hx : Ag (lk .dead l) x (.sl 1 (lcRs ys))) (hy : Ag (lk .dead l) y (.own u)) (ho : lk .gone m u = .row 1 e (lcRs xs)) (hb : Nat.ble bytes 1000 = true) (hd : Nat.blt d cx.N = true) (hl : xs.length + ys.length ≤ 1000000000)
    (k : AL P ops cx Q rest ((d, .own n) :: l) ((n, .row 1 e (lcRs (xs ++ ys))) :: (u, .gone) :: m) (n + 1)) :
    AL P ops cx Q (⟨some d, .call { callee := .builtin .append, args := #[y, x], argTypes := #[T, T] }, ty, pos, af, none⟩ :: rest) l m n :=
  al_app (wd := 1) (av := .sl 1 (lcRs ys)) (rows := lcRs xs) (news := lcRs ys) [] (fun O hO => ⟨rfl, rfl⟩) lcRs_cat hx hy ho trivial hb hd (by rw [lcRs_len, lcRs_len]; exact hl) k
theorem al_appnCv [hT : SlT P T e 1 bytes zs] {ys : List (List (Str × Str))} (hx : Ag (lk .dead l) x (.sl 1 (lcRs ys))) (hy : Ag (lk .dead l) y (.raw (.slice none 0 0))) (hb : Nat.ble bytes 1000 = true) (hd : Nat.blt d cx.N = true) (hl : ys.length ≤ 1000000000)
    (k : AL P ops cx Q rest ((d, .own n) :: l) ((n, .row 1 e (lcRs ys)) :: m) (n + 1)) :
    AL P ops cx Q (⟨some d, .call { callee := .builtin .append, args := #[y, x], argTypes := #[T, T] }, ty, pos, af, none⟩ :: rest) l m n :=
  al_app0 (wd := 1) (av := .sl 1 (lcRs ys)) (news := lcRs ys) [] (fun O hO => ⟨rfl, rfl⟩) hx hy trivial hb hd (by rw [lcRs_len]; exact hl) k
theorem al_appCf [hT : SlT P T e 1 bytes zs] {xs ys : List (List (Str × Str))} {t : Nat} (hx : Ag (lk .dead l) x (.own t)) (ht : lk .gone m t = .froz 1 (lcRs ys)) (hy : Ag (lk .dead l) y (.own u)) (ho : lk .gone m u = .row 1 e (lcRs xs)) (hb : Nat.ble bytes 1000 = true) (hd : Nat.blt d cx.N = true) (hl : xs.length + ys.length ≤ 1000000000)
    (k : AL P ops cx Q rest ((d, .own n) :: l) ((n, .row 1 e (lcRs (xs ++ ys))) :: (u, .gone) :: m) (n + 1)) :
    AL P ops cx Q (⟨some d, .call { callee := .builtin .append, args := #[y, x], argTypes := #[T, T] }, ty, pos, af, none⟩ :: rest) l m n :=
  al_app (wd := 1) (av := .own t) (rows := lcRs xs) (news := lcRs ys) [(t, .froz 1 (lcRs ys))] (fun O hO => .inl hO.1) lcRs_cat hx hy ho ⟨ht, trivial⟩ hb hd (by rw [lcRs_len, lcRs_len]; exact hl) k
theorem al_appnCf [hT : SlT P T e 1 bytes zs] {ys : List (List (Str × Str))} {t : Nat} (hx : Ag (lk .dead l) x (.own t)) (ht : lk .gone m t = .froz 1 (lcRs ys)) (hy : Ag (lk .dead l) y (.raw (.slice none 0 0))) (hb : Nat.ble bytes 1000 = true) (hd : Nat.blt d cx.N = true) (hl : ys.length ≤ 1000000000)
    (k : AL P ops cx Q rest ((d, .own n) :: l) ((n, .row 1 e (lcRs ys)) :: m) (n + 1)) :
    AL P ops cx Q (⟨some d, .call { callee := .builtin .append, args := #[y, x], argTypes := #[T, T] }, ty, pos, af, none⟩ :: rest) l m n :=
  al_app0 (wd := 1) (av := .own t) (news := lcRs ys) [(t, .froz 1 (lcRs ys))] (fun O hO => .inl hO.1) hx hy ⟨ht, trivial⟩ hb hd (by rw [lcRs_len]; exact hl) k
theorem al_appCr [hT : SlT P T e 1 bytes zs] {xs ys : List (List (Str × Str))} {t : Nat} {e' : TypeId} (hx : Ag (lk .dead l) x (.own t)) (ht : lk .gone m t = .row 1 e' (lcRs ys)) (hy : Ag (lk .dead l) y (.own u)) (ho : lk .gone m u = .row 1 e (lcRs xs)) (hb : Nat.ble bytes 1000 = true) (hd : Nat.blt d cx.N = true) (hl : xs.length + ys.length ≤ 1000000000)
    (k : AL P ops cx Q rest ((d, .own n) :: l) ((n, .row 1 e (lcRs (xs ++ ys))) :: (u, .gone) :: m) (n + 1)) :
    AL P ops cx Q (⟨some d, .call { callee := .builtin .append, args := #[y, x], argTypes := #[T, T] }, ty, pos, af, none⟩ :: rest) l m n :=
  al_app (wd := 1) (av := .own t) (rows := lcRs xs) (news := lcRs ys) [(t, .row 1 e' (lcRs ys))] (fun O hO => (.inr ⟨e', hO.1⟩)) lcRs_cat hx hy ho ⟨ht, trivial⟩ hb hd (by rw [lcRs_len, lcRs_len]; exact hl) k
theorem al_appnCr [hT : SlT P T e 1 bytes zs] {ys : List (List (Str × Str))} {t : Nat} {e' : TypeId} (hx : Ag (lk .dead l) x (.own t)) (ht : lk .gone m t = .row 1 e' (lcRs ys)) (hy : Ag (lk .dead l) y (.raw (.slice none 0 0))) (hb : Nat.ble bytes 1000 = true) (hd : Nat.blt d cx.N = true) (hl : ys.length ≤ 1000000000)
    (k : AL P ops cx Q rest ((d, .own n) :: l) ((n, .row 1 e (lcRs ys)) :: m) (n + 1)) :
    AL P ops cx Q (⟨some d, .call { callee := .builtin .append, args := #[y, x], argTypes := #[T, T] }, ty, pos, af, none⟩ :: rest) l m n :=
  al_app0 (wd := 1) (av := .own t) (news := lcRs ys) [(t, .row 1 e' (lcRs ys))] (fun O hO => (.inr ⟨e', hO.1⟩)) hx hy ⟨ht, trivial⟩ hb hd (by rw [lcRs_len]; exact hl) k
theorem plRs_len {xs : List (List (Int × Int))} : (plRs xs).length = xs.length := by simp [plRs]
theorem plRs_at {xs : List (List (Int × Int))} {k : Nat} {x : List (Int × Int)} (h : xs[k]? = some x) : (plRs xs)[k]? = some (plR' x) := by simp [plRs, h]
theorem plRs_nil : plRs [] = [] := rfl
theorem plRs_cat {xs ys : List (List (Int × Int))} : plRs xs ++ plRs ys = plRs (xs ++ ys) := by simp [plRs]
theorem plRs_cut {xs : List (List (Int × Int))} {a b : Nat} : ((plRs xs).take b).drop a = plRs ((xs.take b).drop a) := by simp [plRs, List.map_take, List.map_drop]
theorem plRs_hd {xs : List (List (Int × Int))} {b : Nat} : ((plRs xs).take b).drop 0 = plRs (xs.take b) := by simp [plRs, List.map_take]
theorem plRs_tl {xs : List (List (Int × Int))} {a : Nat} : ((plRs xs).take (plRs xs).length).drop a = plRs (xs.drop a) := by rw [List.take_length]; simp [plRs, List.map_drop]
theorem plRs_set {xs : List (List (Int × Int))} {k : Nat} {x : List (Int × Int)} : (plRs xs).set k (plR' x) = plRs (xs.set k x) := by simp [plRs, List.map_set]
theorem al_pushQ [hT : SlT P T e 1 bytes zs] {xs : List (List (Int × Int))} {a : List (Int × Int)} (hx : AgL (lk .dead l) [(x, .sl 2 (ptRs a))]) (hy : Ag (lk .dead ((d1, .own n) :: l)) y (.own u)) (ho : lk .gone ((n, .row 1 e [[.sl 2 (ptRs a)]]) :: m) u = .row 1 e (plRs xs))
    (hb : Nat.ble bytes 1000 = true) (hd1 : Nat.blt d1 cx.N = true) (hd : Nat.blt d cx.N = true) (hl : xs.length ≤ 1000000000)
    (k : AL P ops cx Q rest ((d, .own (n + 1)) :: (d1, .own n) :: l) ((n + 1, .row 1 e (plRs (xs ++ [a]))) :: (u, .gone) :: (n, .row 1 e [[.sl 2 (ptRs a)]]) :: m) (n + 1 + 1)) :
    AL P ops cx Q (⟨some d1, .buildSlice T 1 #[(0, x)], ty1, pos1, af1, none⟩ :: ⟨some d, .call { callee := .builtin .append, args := #[y, .tmp d1], argTypes := #[T, T] }, ty, pos, af, none⟩ :: rest) l m n :=
  al_push1 (by rw [← plRs_cat]; rfl) hx hy ho hb hd1 hd (by simpa [plRs] using hl) k
theorem al_pusheQ [hT : SlT P T e 1 bytes zs] {a : List (Int × Int)} (hx : AgL (lk .dead l) [(x, .sl 2 (ptRs a))]) (hy : Ag (lk .dead ((d1, .own n) :: l)) y (.own u)) (ho : lk .gone ((n, .row 1 e [[.sl 2 (ptRs a)]]) :: m) u = .row 1 e [])
    (hb : Nat.ble bytes 1000 = true) (hd1 : Nat.blt d1 cx.N = true) (hd : Nat.blt d cx.N = true)
    (k : AL P ops cx Q rest ((d, .own (n + 1)) :: (d1, .own n) :: l) ((n + 1, .row 1 e (plRs [a])) :: (u, .gone) :: (n, .row 1 e [[.sl 2 (ptRs a)]]) :: m) (n + 1 + 1)) :
    AL P ops cx Q (⟨some d1, .buildSlice T 1 #[(0, x)], ty1, pos1, af1, none⟩ :: ⟨some d, .call { callee := .builtin .append, args := #[y, .tmp d1], argTypes := #[T, T] }, ty, pos, af, none⟩ :: rest) l m n :=
  al_push1 rfl hx hy ho hb hd1 hd (by simp) k
theorem ad_pushQ {ol : List Oper} {done : List Keys} [hT : SlT P T e 1 bytes zs] {xs : List (List (Int × Int))} {a : List (Int × Int)} (hx : AgL (lk .dead l) [(x, .sl 2 (ptRs a))]) (hy : Ag (lk .dead ((d1, .own n) :: l)) y (.own u)) (ho : lk .gone ((n, .row 1 e [[.sl 2 (ptRs a)]]) :: m) u = .row 1 e (plRs xs))
    (hb : Nat.ble bytes 1000 = true) (hd1 : Nat.blt d1 cx.N = true) (hd : Nat.blt d cx.N = true) (hl : xs.length ≤ 1000000000)
    (k : AD P ol cx Q (⟨rtmps [(y, .own u), (.tmp d1, .own n)], [d], [u, n], [n + 1, u], [n + 1]⟩ :: ⟨rtmps [(x, .sl 2 (ptRs a))], [d1], [], [n], [n]⟩ :: done) rest ((d, .own (n + 1)) :: (d1, .own n) :: l) ((n + 1, .row 1 e (plRs (xs ++ [a]))) :: (u, .gone) :: (n, .row 1 e [[.sl 2 (ptRs a)]]) :: m) (n + 1 + 1)) :
    AD P ol cx Q done (⟨some d1, .buildSlice T 1 #[(0, x)], ty1, pos1, af1, none⟩ :: ⟨some d, .call { callee := .builtin .append, args := #[y, .tmp d1], argTypes := #[T, T] }, ty, pos, af, none⟩ :: rest) l m n :=
  ad_push1 (by rw [← plRs_cat]; rfl) hx hy ho hb hd1 hd (by simpa [plRs] using hl) k
theorem al_appQv [hT : SlT P T e 1 bytes zs] {xs ys : List (List (Int × Int))} (hx : Ag (lk .dead l) x (.sl 1 (plRs ys))) (hy : Ag (lk .dead l) y (.own u)) (ho : lk .gone m u = .row 1 e (plRs xs)) (hb : Nat.ble bytes 1000 = true) (hd : Nat.blt d cx.N = true) (hl : xs.length + ys.length ≤ 1000000000)
    (k : AL P ops cx Q rest ((d, .own n) :: l) ((n, .row 1 e (plRs (xs ++ ys))) :: (u, .gone) :: m) (n + 1)) :
    AL P ops cx Q (⟨some d, .call { callee := .builtin .append, args := #[y, x], argTypes := #[T, T] }, ty, pos, af, none⟩ :: rest) l m n :=
  al_app (wd := 1) (av := .sl 1 (plRs ys)) (rows := plRs xs) (news := plRs ys) [] (fun O hO => ⟨rfl, rfl⟩) plRs_cat hx hy ho trivial hb hd (by rw [plRs_len, plRs_len]; exact hl) k
theorem al_appnQv [hT : SlT P T e 1 bytes zs] {ys : List (List (Int × Int))} (hx : Ag (lk .dead l) x (.sl 1 (plRs ys))) (hy : Ag (lk .dead l) y (.raw (.slice none 0 0))) (hb : Nat.ble bytes 1000 = true) (hd : Nat.blt d cx.N = true) (hl : ys.length ≤ 1000000000)
    (k : AL P ops cx Q rest ((d, .own n) :: l) ((n, .row 1 e (plRs ys)) :: m) (n + 1)) :
    AL P ops cx Q (⟨some d, .call { callee := .builtin .append, args := #[y, x], argTypes := #[T, T] }, ty, pos, af, none⟩ :: rest) l m n :=
  al_app0 (wd := 1) (av := .sl 1 (plRs ys)) (news := plRs ys) [] (fun O hO => ⟨rfl, rfl⟩) hx hy trivial hb hd (by rw [plRs_len]; exact hl) k
theorem al_appQf [hT : SlT P T e 1 bytes zs] {xs ys : List (List (Int × Int))} {t : Nat} (hx : Ag (lk .dead l) x (.own t)) (ht : lk .gone m t = .froz 1 (plRs ys)) (hy : Ag (lk .dead l) y (.own u)) (ho : lk .gone m u = .row 1 e (plRs xs)) (hb : Nat.ble bytes 1000 = true) (hd : Nat.blt d cx.N = true) (hl : xs.length + ys.length ≤ 1000000000)
    (k : AL P ops cx Q rest ((d, .own n) :: l) ((n, .row 1 e (plRs (xs ++ ys))) :: (u, .gone) :: m) (n + 1)) :
    AL P ops cx Q (⟨some d, .call { callee := .builtin .append, args := #[y, x], argTypes := #[T, T] }, ty, pos, af, none⟩ :: rest) l m n :=
  al_app (wd := 1) (av := .own t) (rows := plRs xs) (news := plRs ys) [(t, .froz 1 (plRs ys))] (fun O hO => .inl hO.1) plRs_cat hx hy ho ⟨ht, trivial⟩ hb hd (by rw [plRs_len, plRs_len]; exact hl) k
theorem al_appnQf [hT : SlT P T e 1 bytes zs] {ys : List (List (Int × Int))} {t : Nat} (hx : Ag (lk .dead l) x (.own t)) (ht : lk .gone m t = .froz 1 (plRs ys)) (hy : Ag (lk .dead l) y (.raw (.slice none 0 0))) (hb : Nat.ble bytes 1000 = true) (hd : Nat.blt d cx.N = true) (hl : ys.length ≤ 1000000000)
    (k : AL P ops cx Q rest ((d, .own n) :: l) ((n, .row 1 e (plRs ys)) :: m) (n + 1)) :
    AL P ops cx Q (⟨some d, .call { callee := .builtin .append, args := #[y, x], argTypes := #[T, T] }, ty, pos, af, none⟩ :: rest) l m n :=
  al_app0 (wd := 1) (av := .own t) (news := plRs ys) [(t, .froz 1 (plRs ys))] (fun O hO => .inl hO.1) hx hy ⟨ht, trivial⟩ hb hd (by rw [plRs_len]; exact hl) k
theorem al_appQr [hT : SlT P T e 1 bytes zs] {xs ys : List (List (Int × Int))} {t : Nat} {e' : TypeId} (hx : Ag (lk .dead l) x (.own t)) (ht : lk .gone m t = .row 1 e' (plRs ys)) (hy : Ag (lk .dead l) y (.own u)) (ho : lk .gone m u = .row 1 e (plRs xs)) (hb : Nat.ble bytes 1000 = true) (hd : Nat.blt d cx.N = true) (hl : xs.length + ys.length ≤ 1000000000)
    (k : AL P ops cx Q rest ((d, .own n) :: l) ((n, .row 1 e (plRs (xs ++ ys))) :: (u, .gone) :: m) (n + 1)) :
    AL P ops cx Q (⟨some d, .call { callee := .builtin .append, args := #[y, x], argTypes := #[T, T] }, ty, pos, af, none⟩ :: rest) l m n :=
  al_app (wd := 1) (av := .own t) (rows := plRs xs) (news := plRs ys) [(t, .row 1 e' (plRs ys))] (fun O hO => (.inr ⟨e', hO.1⟩)) plRs_cat hx hy ho ⟨ht, trivial⟩ hb hd (by rw [plRs_len, plRs_len]; exact hl) k
theorem al_appnQr [hT : SlT P T e 1 bytes zs] {ys : List (List (Int × Int))} {t : Nat} {e' : TypeId} (hx : Ag (lk .dead l) x (.own t)) (ht : lk .gone m t = .row 1 e' (plRs ys)) (hy : Ag (lk .dead l) y (.raw (.slice none 0 0))) (hb : Nat.ble bytes 1000 = true) (hd : Nat.blt d cx.N = true) (hl : ys.length ≤ 1000000000)
    (k : AL P ops cx Q rest ((d, .own n) :: l) ((n, .row 1 e (plRs ys)) :: m) (n + 1)) :
    AL P ops cx Q (⟨some d, .call { callee := .builtin .append, args := #[y, x], argTypes := #[T, T] }, ty, pos, af, none⟩ :: rest) l m n :=
  al_app0 (wd := 1) (av := .own t) (news := plRs ys) [(t, .row 1 e' (plRs ys))] (fun O hO => (.inr ⟨e', hO.1⟩)) hx hy ⟨ht, trivial⟩ hb hd (by rw [plRs_len]; exact hl) k
theorem smRs_len {xs : List (List (Str × Str) × Int)} : (smRs xs).length = xs.length := by simp [smRs]
theorem smRs_at {xs : List (List (Str × Str) × Int)} {k : Nat} {x : List (Str × Str) × Int} (h : xs[k]? = some x) : (smRs xs)[k]? = some (smR x) := by simp [smRs, h]
theorem smRs_nil : smRs [] = [] := rfl
theorem smRs_cat {xs ys : List (List (Str × Str) × Int)} : smRs xs ++ smRs ys = smRs (xs ++ ys) := by simp [smRs]
theorem smRs_cut {xs : List (List (Str × Str) × Int)} {a b : Nat} : ((smRs xs).take b).drop a = smRs ((xs.take b).drop a) := by simp [smRs, List.map_take, List.map_drop]
theorem smRs_hd {xs : List (List (Str × Str) × Int)} {b : Nat} : ((smRs xs).take b).drop 0 = smRs (xs.take b) := by simp [smRs, List.map_take]
theorem smRs_tl {xs : List (List (Str × Str) × Int)} {a : Nat} : ((smRs xs).take (smRs xs).length).drop a = smRs (xs.drop a) := by rw [List.take_length]; simp [smRs, List.map_drop]
theorem smRs_set {xs : List (List (Str × Str) × Int)} {k : Nat} {x : List (Str × Str) × Int} : (smRs xs).set k (smR x) = smRs (xs.set k x) := by simp [smRs, List.map_set]
theorem al_pushM [hT : SlT P T e 2 bytes zs] {xs : List (List (Str × Str) × Int)} {a : List (Str × Str)} {b : Int} (hx : AgL (lk .dead l) [(x, .agg [.c (.sl 2 (lbRs a)), .c (cI b)])]) (hy : Ag (lk .dead ((d1, .own n) :: l)) y (.own u)) (ho : lk .gone ((n, .row 2 e [[.sl 2 (lbRs a), cI b]]) :: m) u = .row 2 e (smRs xs))
    (hb : Nat.ble bytes 1000 = true) (hd1 : Nat.blt d1 cx.N = true) (hd : Nat.blt d cx.N = true) (hl : xs.length ≤ 1000000000)
    (k : AL P ops cx Q rest ((d, .own (n + 1)) :: (d1, .own n) :: l) ((n + 1, .row 2 e (smRs (xs ++ [(a, b)]))) :: (u, .gone) :: (n, .row 2 e [[.sl 2 (lbRs a), cI b]]) :: m) (n + 1 + 1)) :
    AL P ops cx Q (⟨some d1, .buildSlice T 1 #[(0, x)], ty1, pos1, af1, none⟩ :: ⟨some d, .call { callee := .builtin .append, args := #[y, .tmp d1], argTypes := #[T, T] }, ty, pos, af, none⟩ :: rest) l m n :=
  al_push2 (by rw [← smRs_cat]; rfl) hx hy ho hb hd1 hd (by simpa [smRs] using hl) k
theorem al_pusheM [hT : SlT P T e 2 bytes zs] {a : List (Str × Str)} {b : Int} (hx : AgL (lk .dead l) [(x, .agg [.c (.sl 2 (lbRs a)), .c (cI b)])]) (hy : Ag (lk .dead ((d1, .own n) :: l)) y (.own u)) (ho : lk .gone ((n, .row 2 e [[.sl 2 (lbRs a), cI b]]) :: m) u = .row 2 e [])
    (hb : Nat.ble bytes 1000 = true) (hd1 : Nat.blt d1 cx.N = true) (hd : Nat.blt d cx.N = true)
    (k : AL P ops cx Q rest ((d, .own (n + 1)) :: (d1, .own n) :: l) ((n + 1, .row 2 e (smRs [(a, b)])) :: (u, .gone) :: (n, .row 2 e [[.sl 2 (lbRs a), cI b]]) :: m) (n + 1 + 1)) :
    AL P ops cx Q (⟨some d1, .buildSlice T 1 #[(0, x)], ty1, pos1, af1, none⟩ :: ⟨some d, .call { callee := .builtin .append, args := #[y, .tmp d1], argTypes := #[T, T] }, ty, pos, af, none⟩ :: rest) l m n :=
  al_push2 rfl hx hy ho hb hd1 hd (by simp) k
theorem ad_pushM {ol : List Oper} {done : List Keys} [hT : SlT P T e 2 bytes zs] {xs : List (List (Str × Str) × Int)} {a : List (Str × Str)} {b : Int} (hx : AgL (lk .dead l) [(x, .agg [.c (.sl 2 (lbRs a)), .c (cI b)])]) (hy : Ag (lk .dead ((d1, .own n) :: l)) y (.own u)) (ho : lk .gone ((n, .row 2 e [[.sl 2 (lbRs a), cI b]]) :: m) u = .row 2 e (smRs xs))
    (hb : Nat.ble bytes 1000 = true) (hd1 : Nat.blt d1 cx.N = true) (hd : Nat.blt d cx.N = true) (hl : xs.length ≤ 1000000000)
    (k : AD P ol cx Q (⟨rtmps [(y, .own u), (.tmp d1, .own n)], [d], [u, n], [n + 1, u], [n + 1]⟩ :: ⟨rtmps [(x, .agg [.c (.sl 2 (lbRs a)), .c (cI b)])], [d1], [], [n], [n]⟩ :: done) rest ((d, .own (n + 1)) :: (d1, .own n) :: l) ((n + 1, .row 2 e (smRs (xs ++ [(a, b)]))) :: (u, .gone) :: (n, .row 2 e [[.sl 2 (lbRs a), cI b]]) :: m) (n + 1 + 1)) :
    AD P ol cx Q done (⟨some d1, .buildSlice T 1 #[(0, x)], ty1, pos1, af1, none⟩ :: ⟨some d, .call { callee := .builtin .append, args := #[y, .tmp d1], argTypes := #[T, T] }, ty, pos, af, none⟩ :: rest) l m n :=
  ad_push2 (by rw [← smRs_cat]; rfl) hx hy ho hb hd1 hd (by simpa [smRs] using hl) k
theorem al_appMv [hT : SlT P T e 2 bytes zs] {xs ys : List (List (Str × Str) × Int)} (hx : Ag (lk .dead l) x (.sl 2 (smRs ys))) (hy : Ag (lk .dead l) y (.own u)) (ho : lk .gone m u = .row 2 e (smRs xs)) (hb : Nat.ble bytes 1000 = true) (hd : Nat.blt d cx.N = true) (hl : xs.length + ys.length ≤ 1000000000)
    (k : AL P ops cx Q rest ((d, .own n) :: l) ((n, .row 2 e (smRs (xs ++ ys))) :: (u, .gone) :: m) (n + 1)) :
    AL P ops cx Q (⟨some d, .call { callee := .builtin .append, args := #[y, x], argTypes := #[T, T] }, ty, pos, af, none⟩ :: rest) l m n :=
  al_app (wd := 2) (av := .sl 2 (smRs ys)) (rows := smRs xs) (news := smRs ys) [] (fun O hO => ⟨rfl, rfl⟩) smRs_cat hx hy ho trivial hb hd (by rw [smRs_len, smRs_len]; exact hl) k
theorem al_appnMv [hT : SlT P T e 2 bytes zs] {ys : List (List (Str × Str) × Int)} (hx : Ag (lk .dead l) x (.sl 2 (smRs ys))) (hy : Ag (lk .dead l) y (.raw (.slice none 0 0))) (hb : Nat.ble bytes 1000 = true) (hd : Nat.blt d cx.N = true) (hl : ys.length ≤ 1000000000)
    (k : AL P ops cx Q rest ((d, .own n) :: l) ((n, .row 2 e (smRs ys)) :: m) (n + 1)) :
    AL P ops cx Q (⟨some d, .call { callee := .builtin .append, args := #[y, x], argTypes := #[T, T] }, ty, pos, af, none⟩ :: rest) l m n :=
  al_app0 (wd := 2) (av := .sl 2 (smRs ys)) (news := smRs ys) [] (fun O hO => ⟨rfl, rfl⟩) hx hy trivial hb hd (by rw [smRs_len]; exact hl) k
theorem al_appMf [hT : SlT P T e 2 bytes zs] {xs ys : List (List (Str × Str) × Int)} {t : Nat} (hx : Ag (lk .dead l) x (.own t)) (ht : lk .gone m t = .froz 2 (smRs ys)) (hy : Ag (lk .dead l) y (.own u)) (ho : lk .gone m u = .row 2 e (smRs xs)) (hb : Nat.ble bytes 1000 = true) (hd : Nat.blt d cx.N = true) (hl : xs.length + ys.length ≤ 1000000000)
    (k : AL P ops cx Q rest ((d, .own n) :: l) ((n, .row 2 e (smRs (xs ++ ys))) :: (u, .gone) :: m) (n + 1)) :
    AL P ops cx Q (⟨some d, .call { callee := .builtin .append, args := #[y, x], argTypes := #[T, T] }, ty, pos, af, none⟩ :: rest) l m n :=
  al_app (wd := 2) (av := .own t) (rows := smRs xs) (news := smRs ys) [(t, .froz 2 (smRs ys))] (fun O hO => .inl hO.1) smRs_cat hx hy ho ⟨ht, trivial⟩ hb hd (by rw [smRs_len, smRs_len]; exact hl) k
theorem al_appnMf [hT : SlT P T e 2 bytes zs] {ys : List (List (Str × Str) × Int)} {t : Nat} (hx : Ag (lk .dead l) x (.own t)) (ht : lk .gone m t = .froz 2 (smRs ys)) (hy : Ag (lk .dead l) y (.raw (.slice none 0 0))) (hb : Nat.ble bytes 1000 = true) (hd : Nat.blt d cx.N = true) (hl : ys.length ≤ 1000000000)
    (k : AL P ops cx Q rest ((d, .own n) :: l) ((n, .row 2 e (smRs ys)) :: m) (n + 1)) :
    AL P ops cx Q (⟨some d, .call { callee := .builtin .append, args := #[y, x], argTypes := #[T, T] }, ty, pos, af, none⟩ :: rest) l m n :=
  al_app0 (wd := 2) (av := .own t) (news := smRs ys) [(t, .froz 2 (smRs ys))] (fun O hO => .inl hO.1) hx hy ⟨ht, trivial⟩ hb hd (by rw [smRs_len]; exact hl) k
theorem al_appMr [hT : SlT P T e 2 bytes zs] {xs ys : List (List (Str × Str) × Int)} {t : Nat} {e' : TypeId} (hx : Ag (lk .dead l) x (.own t)) (ht : lk .gone m t = .row 2 e' (smRs ys)) (hy : Ag (lk .dead l) y (.own u)) (ho : lk .gone m u = .row 2 e (smRs xs)) (hb : Nat.ble bytes 1000 = true) (hd : Nat.blt d cx.N = true) (hl : xs.length + ys.length ≤ 1000000000)
    (k : AL P ops cx Q rest ((d, .own n) :: l) ((n, .row 2 e (smRs (xs ++ ys))) :: (u, .gone) :: m) (n + 1)) :
    AL P ops cx Q (⟨some d, .call { callee := .builtin .append, args := #[y, x], argTypes := #[T, T] }, ty, pos, af, none⟩ :: rest) l m n :=
  al_app (wd := 2) (av := .own t) (rows := smRs xs) (news := smRs ys) [(t, .row 2 e' (smRs ys))] (fun O hO => (.inr ⟨e', hO.1⟩)) smRs_cat hx hy ho ⟨ht, trivial⟩ hb hd (by rw [smRs_len, smRs_len]; exact hl) k
theorem al_appnMr [hT : SlT P T e 2 bytes zs] {ys : List (List (Str × Str) × Int)} {t : Nat} {e' : TypeId} (hx : Ag (lk .dead l) x (.own t)) (ht : lk .gone m t = .row 2 e' (smRs ys)) (hy : Ag (lk .dead l) y (.raw (.slice none 0 0))) (hb : Nat.ble bytes 1000 = true) (hd : Nat.blt d cx.N = true) (hl : ys.length ≤ 1000000000)
    (k : AL P ops cx Q rest ((d, .own n) :: l) ((n, .row 2 e (smRs ys)) :: m) (n + 1)) :
    AL P ops cx Q (⟨some d, .call { callee := .builtin .append, args := #[y, x], argTypes := #[T, T] }, ty, pos, af, none⟩ :: rest) l m n :=
  al_app0 (wd := 2) (av := .own t) (news := smRs ys) [(t, .row 2 e' (smRs ys))] (fun O hO => (.inr ⟨e', hO.1⟩)) hx hy ⟨ht, trivial⟩ hb hd (by rw [smRs_len]; exact hl) k
theorem al_appePv [hT : SlT P T e 2 bytes zs] {ys : List (Int × Int)} (hx : Ag (lk .dead l) x (.sl 2 (ptRs ys))) (hy : Ag (lk .dead l) y (.own u)) (ho : lk .gone m u = .row 2 e []) (hb : Nat.ble bytes 1000 = true) (hd : Nat.blt d cx.N = true) (hl : ys.length ≤ 1000000000)
    (k : AL P ops cx Q rest ((d, .own n) :: l) ((n, .row 2 e (ptRs ys)) :: (u, .gone) :: m) (n + 1)) :
    AL P ops cx Q (⟨some d, .call { callee := .builtin .append, args := #[y, x], argTypes := #[T, T] }, ty, pos, af, none⟩ :: rest) l m n :=
  al_app (wd := 2) (av := .sl 2 (ptRs ys)) (rows := []) (news := ptRs ys) [] (fun O hO => ⟨rfl, rfl⟩) rfl hx hy ho trivial hb hd (by rw [ptRs_len]; simpa using hl) k
theorem al_appePf [hT : SlT P T e 2 bytes zs] {ys : List (Int × Int)} {t : Nat} (hx : Ag (lk .dead l) x (.own t)) (ht : lk .gone m t = .froz 2 (ptRs ys)) (hy : Ag (lk .dead l) y (.own u)) (ho : lk .gone m u = .row 2 e []) (hb : Nat.ble bytes 1000 = true) (hd : Nat.blt d cx.N = true) (hl : ys.length ≤ 1000000000)
    (k : AL P ops cx Q rest ((d, .own n) :: l) ((n, .row 2 e (ptRs ys)) :: (u, .gone) :: m) (n + 1)) :
    AL P ops cx Q (⟨some d, .call { callee := .builtin .append, args := #[y, x], argTypes := #[T, T] }, ty, pos, af, none⟩ :: rest) l m n :=
  al_app (wd := 2) (av := .own t) (rows := []) (news := ptRs ys) [(t, .froz 2 (ptRs ys))] (fun O hO => .inl hO.1) rfl hx hy ho ⟨ht, trivial⟩ hb hd (by rw [ptRs_len]; simpa using hl) k
theorem al_appePr [hT : SlT P T e 2 bytes zs] {ys : List (Int × Int)} {t : Nat} {e' : TypeId} (hx : Ag (lk .dead l) x (.own t)) (ht : lk .gone m t = .row 2 e' (ptRs ys)) (hy : Ag (lk .dead l) y (.own u)) (ho : lk .gone m u = .row 2 e []) (hb : Nat.ble bytes 1000 = true) (hd : Nat.blt d cx.N = true) (hl : ys.length ≤ 1000000000)
    (k : AL P ops cx Q rest ((d, .own n) :: l) ((n, .row 2 e (ptRs ys)) :: (u, .gone) :: m) (n + 1)) :
    AL P ops cx Q (⟨some d, .call { callee := .builtin .append, args := #[y, x], argTypes := #[T, T] }, ty, pos, af, none⟩ :: rest) l m n :=
  al_app (wd := 2) (av := .own t) (rows := []) (news := ptRs ys) [(t, .row 2 e' (ptRs ys))] (fun O hO => (.inr ⟨e', hO.1⟩)) rfl hx hy ho ⟨ht, trivial⟩ hb hd (by rw [ptRs_len]; simpa using hl) k
theorem al_appeIv [hT : SlT P T e 1 bytes zs] {ys : List (Int)} (hx : Ag (lk .dead l) x (.sl 1 (inRs ys))) (hy : Ag (lk .dead l) y (.own u)) (ho : lk .gone m u = .row 1 e []) (hb : Nat.ble bytes 1000 = true) (hd : Nat.blt d cx.N = true) (hl : ys.length ≤ 1000000000)
    (k : AL P ops cx Q rest ((d, .own n) :: l) ((n, .row 1 e (inRs ys)) :: (u, .gone) :: m) (n + 1)) :
    AL P ops cx Q (⟨some d, .call { callee := .builtin .append, args := #[y, x], argTypes := #[T, T] }, ty, pos, af, none⟩ :: rest) l m n :=
  al_app (wd := 1) (av := .sl 1 (inRs ys)) (rows := []) (news := inRs ys) [] (fun O hO => ⟨rfl, rfl⟩) rfl hx hy ho trivial hb hd (by rw [inRs_len]; simpa using hl) k
theorem al_appeIf [hT : SlT P T e 1 bytes zs] {ys : List (Int)} {t : Nat} (hx : Ag (lk .dead l) x (.own t)) (ht : lk .gone m t = .froz 1 (inRs ys)) (hy : Ag (lk .dead l) y (.own u)) (ho : lk .gone m u = .row 1 e []) (hb : Nat.ble bytes 1000 = true) (hd : Nat.blt d cx.N = true) (hl : ys.length ≤ 1000000000)
    (k : AL P ops cx Q rest ((d, .own n) :: l) ((n, .row 1 e (inRs ys)) :: (u, .gone) :: m) (n + 1)) :
    AL P ops cx Q (⟨some d, .call { callee := .builtin .append, args := #[y, x], argTypes := #[T, T] }, ty, pos, af, none⟩ :: rest) l m n :=
  al_app (wd := 1) (av := .own t) (rows := []) (news := inRs ys) [(t, .froz 1 (inRs ys))] (fun O hO => .inl hO.1) rfl hx hy ho ⟨ht, trivial⟩ hb hd (by rw [inRs_len]; simpa using hl) k
theorem al_appeIr [hT : SlT P T e 1 bytes zs] {ys : List (Int)} {t : Nat} {e' : TypeId} (hx : Ag (lk .dead l) x (.own t)) (ht : lk .gone m t = .row 1 e' (inRs ys)) (hy : Ag (lk .dead l) y (.own u)) (ho : lk .gone m u = .row 1 e []) (hb : Nat.ble bytes 1000 = true) (hd : Nat.blt d cx.N = true) (hl : ys.length ≤ 1000000000)
    (k : AL P ops cx Q rest ((d, .own n) :: l) ((n, .row 1 e (inRs ys)) :: (u, .gone) :: m) (n + 1)) :
    AL P ops cx Q (⟨some d, .call { callee := .builtin .append, args := #[y, x], argTypes := #[T, T] }, ty, pos, af, none⟩ :: rest) l m n :=
  al_app (wd := 1) (av := .own t) (rows := []) (news := inRs ys) [(t, .row 1 e' (inRs ys))] (fun O hO => (.inr ⟨e', hO.1⟩)) rfl hx hy ho ⟨ht, trivial⟩ hb hd (by rw [inRs_len]; simpa using hl) k
theorem al_appeBv [hT : SlT P T e 1 bytes zs] {ys : List (UInt8)} (hx : Ag (lk .dead l) x (.sl 1 (byRs ys))) (hy : Ag (lk .dead l) y (.own u)) (ho : lk .gone m u = .row 1 e []) (hb : Nat.ble bytes 1000 = true) (hd : Nat.blt d cx.N = true) (hl : ys.length ≤ 1000000000)
    (k : AL P ops cx Q rest ((d, .own n) :: l) ((n, .row 1 e (byRs ys)) :: (u, .gone) :: m) (n + 1)) :
    AL P ops cx Q (⟨some d, .call { callee := .builtin .append, args := #[y, x], argTypes := #[T, T] }, ty, pos, af, none⟩ :: rest) l m n :=
  al_app (wd := 1) (av := .sl 1 (byRs ys)) (rows := []) (news := byRs ys) [] (fun O hO => ⟨rfl, rfl⟩) rfl hx hy ho trivial hb hd (by rw [byRs_len]; simpa using hl) k
theorem al_appeBf [hT : SlT P T e 1 bytes zs] {ys : List (UInt8)} {t : Nat} (hx : Ag (lk .dead l) x (.own t)) (ht : lk .gone m t = .froz 1 (byRs ys)) (hy : Ag (lk .dead l) y (.own u)) (ho : lk .gone m u = .row 1 e []) (hb : Nat.ble bytes 1000 = true) (hd : Nat.blt d cx.N = true) (hl : ys.length ≤ 1000000000)
    (k : AL P ops cx Q rest ((d, .own n) :: l) ((n, .row 1 e (byRs ys)) :: (u, .gone) :: m) (n + 1)) :
    AL P ops cx Q (⟨some d, .call { callee := .builtin .append, args := #[y, x], argTypes := #[T, T] }, ty, pos, af, none⟩ :: rest) l m n :=
  al_app (wd := 1) (av := .own t) (rows := []) (news := byRs ys) [(t, .froz 1 (byRs ys))] (fun O hO => .inl hO.1) rfl hx hy ho ⟨ht, trivial⟩ hb hd (by rw [byRs_len]; simpa using hl) k
theorem al_appeBr [hT : SlT P T e 1 bytes zs] {ys : List (UInt8)} {t : Nat} {e' : TypeId} (hx : Ag (lk .dead l) x (.own t)) (ht : lk .gone m t = .row 1 e' (byRs ys)) (hy : Ag (lk .dead l) y (.own u)) (ho : lk .gone m u = .row 1 e []) (hb : Nat.ble bytes 1000 = true) (hd : Nat.blt d cx.N = true) (hl : ys.length ≤ 1000000000)
    (k : AL P ops cx Q rest ((d, .own n) :: l) ((n, .row 1 e (byRs ys)) :: (u, .gone) :: m) (n + 1)) :
    AL P ops cx Q (⟨some d, .call { callee := .builtin .append, args := #[y, x], argTypes := #[T, T] }, ty, pos, af, none⟩ :: rest) l m n :=
  al_app (wd := 1) (av := .own t) (rows := []) (news := byRs ys) [(t, .row 1 e' (byRs ys))] (fun O hO => (.inr ⟨e', hO.1⟩)) rfl hx hy ho ⟨ht, trivial⟩ hb hd (by rw [byRs_len]; simpa using hl) k
theorem al_appeLv [hT : SlT P T e 2 bytes zs] {ys : List (Str × Str)} (hx : Ag (lk .dead l) x (.sl 2 (lbRs ys))) (hy : Ag (lk .dead l) y (.own u)) (ho : lk .gone m u = .row 2 e []) (hb : Nat.ble bytes 1000 = true) (hd : Nat.blt d cx.N = true) (hl : ys.length ≤ 1000000000)
    (k : AL P ops cx Q rest ((d, .own n) :: l) ((n, .row 2 e (lbRs ys)) :: (u, .gone) :: m) (n + 1)) :
    AL P ops cx Q (⟨some d, .call { callee := .builtin .append, args := #[y, x], argTypes := #[T, T] }, ty, pos, af, none⟩ :: rest) l m n :=
  al_app (wd := 2) (av := .sl 2 (lbRs ys)) (rows := []) (news := lbRs ys) [] (fun O hO => ⟨rfl, rfl⟩) rfl hx hy ho trivial hb hd (by rw [lbRs_len]; simpa using hl) k
theorem al_appeLf [hT : SlT P T e 2 bytes zs] {ys : List (Str × Str)} {t : Nat} (hx : Ag (lk .dead l) x (.own t)) (ht : lk .gone m t = .froz 2 (lbRs ys)) (hy : Ag (lk .dead l) y (.own u)) (ho : lk .gone m u = .row 2 e []) (hb : Nat.ble bytes 1000 = true) (hd : Nat.blt d cx.N = true) (hl : ys.length ≤ 1000000000)
    (k : AL P ops cx Q rest ((d, .own n) :: l) ((n, .row 2 e (lbRs ys)) :: (u, .gone) :: m) (n + 1)) :
    AL P ops cx Q (⟨some d, .call { callee := .builtin .append, args := #[y, x], argTypes := #[T, T] }, ty, pos, af, none⟩ :: rest) l m n :=
  al_app (wd := 2) (av := .own t) (rows := []) (news := lbRs ys) [(t, .froz 2 (lbRs ys))] (fun O hO => .inl hO.1) rfl hx hy ho ⟨ht, trivial⟩ hb hd (by rw [lbRs_len]; simpa using hl) k
theorem al_appeLr [hT : SlT P T e 2 bytes zs] {ys : List (Str × Str)} {t : Nat} {e' : TypeId} (hx : Ag (lk .dead l) x (.own t)) (ht : lk .gone m t = .row 2 e' (lbRs ys)) (hy : Ag (lk .dead l) y (.own u)) (ho : lk .gone m u = .row 2 e []) (hb : Nat.ble bytes 1000 = true) (hd : Nat.blt d cx.N = true) (hl : ys.length ≤ 1000000000)
    (k : AL P ops cx Q rest ((d, .own n) :: l) ((n, .row 2 e (lbRs ys)) :: (u, .gone) :: m) (n + 1)) :
    AL P ops cx Q (⟨some d, .call { callee := .builtin .append, args := #[y, x], argTypes := #[T, T] }, ty, pos, af, none⟩ :: rest) l m n :=
  al_app (wd := 2) (av := .own t) (rows := []) (news := lbRs ys) [(t, .row 2 e' (lbRs ys))] (fun O hO => (.inr ⟨e', hO.1⟩)) rfl hx hy ho ⟨ht, trivial⟩ hb hd (by rw [lbRs_len]; simpa using hl) k
theorem al_appeSv [hT : SlT P T e 1 bytes zs] {ys : List (Str)} (hx : Ag (lk .dead l) x (.sl 1 (stRs ys))) (hy : Ag (lk .dead l) y (.own u)) (ho : lk .gone m u = .row 1 e []) (hb : Nat.ble bytes 1000 = true) (hd : Nat.blt d cx.N = true) (hl : ys.length ≤ 1000000000)
    (k : AL P ops cx Q rest ((d, .own n) :: l) ((n, .row 1 e (stRs ys)) :: (u, .gone) :: m) (n + 1)) :
    AL P ops cx Q (⟨some d, .call { callee := .builtin .append, args := #[y, x], argTypes := #[T, T] }, ty, pos, af, none⟩ :: rest) l m n :=
  al_app (wd := 1) (av := .sl 1 (stRs ys)) (rows := []) (news := stRs ys) [] (fun O hO => ⟨rfl, rfl⟩) rfl hx hy ho trivial hb hd (by rw [stRs_len]; simpa using hl) k
theorem al_appeSf [hT : SlT P T e 1 bytes zs] {ys : List (Str)} {t : Nat} (hx : Ag (lk .dead l) x (.own t)) (ht : lk .gone m t = .froz 1 (stRs ys)) (hy : Ag (lk .dead l) y (.own u)) (ho : lk .gone m u = .row 1 e []) (hb : Nat.ble bytes 1000 = true) (hd : Nat.blt d cx.N = true) (hl : ys.length ≤ 1000000000)
    (k : AL P ops cx Q rest ((d, .own n) :: l) ((n, .row 1 e (stRs ys)) :: (u, .gone) :: m) (n + 1)) :
    AL P ops cx Q (⟨some d, .call { callee := .builtin .append, args := #[y, x], argTypes := #[T, T] }, ty, pos, af, none⟩ :: rest) l m n :=
  al_app (wd := 1) (av := .own t) (rows := []) (news := stRs ys) [(t, .froz 1 (stRs ys))] (fun O hO => .inl hO.1) rfl hx hy ho ⟨ht, trivial⟩ hb hd (by rw [stRs_len]; simpa using hl) k
theorem al_appeSr [hT : SlT P T e 1 bytes zs] {ys : List (Str)} {t : Nat} {e' : TypeId} (hx : Ag (lk .dead l) x (.own t)) (ht : lk .gone m t = .row 1 e' (stRs ys)) (hy : Ag (lk .dead l) y (.own u)) (ho : lk .gone m u = .row 1 e []) (hb : Nat.ble bytes 1000 = true) (hd : Nat.blt d cx.N = true) (hl : ys.length ≤ 1000000000)
    (k : AL P ops cx Q rest ((d, .own n) :: l) ((n, .row 1 e (stRs ys)) :: (u, .gone) :: m) (n + 1)) :
    AL P ops cx Q (⟨some d, .call { callee := .builtin .append, args := #[y, x], argTypes := #[T, T] }, ty, pos, af, none⟩ :: rest) l m n :=
  al_app (wd := 1) (av := .own t) (rows := []) (news := stRs ys) [(t, .row 1 e' (stRs ys))] (fun O hO => (.inr ⟨e', hO.1⟩)) rfl hx hy ho ⟨ht, trivial⟩ hb hd (by rw [stRs_len]; simpa using hl) k
theorem al_stP {t : TypeId} [hT : TyStr P t 2] {xs : List (Int × Int)} {i : Nat} {a b : Int} (hx : Ag (lk .dead l) x (.el u 2 i 0)) (hy : Ag (lk .dead l) y (.agg [.c (cI a), .c (cI b)])) (ho : lk .gone m u = .row 2 e (ptRs xs)) (hi : i < xs.length)
    (k : AL P ops cx Q rest l ((u, .row 2 e (ptRs (xs.set i (a, b)))) :: m) n) : AL P ops cx Q (⟨none, .store t x y, ty, pos, af, none⟩ :: rest) l m n := by
  rw [← ptRs_set] at k
  exact al_s (opx_sts_el (rows := ptRs xs) (row := ptR (a, b)) rfl rfl (by rw [ptRs_len]; exact hi)) ⟨hx, hy, trivial⟩ ⟨ho, trivial⟩ k
theorem al_stP0 {t : TypeId} [hT : TyOne P t] {xs : List (Int × Int)} {i : Nat} {a : Int} {p : Int × Int} (hx : Ag (lk .dead l) x (.el u 2 i 0)) (hy : Ag (lk .dead l) y (.c (cI a))) (ho : lk .gone m u = .row 2 e (ptRs xs)) (hi : xs[i]? = some p)
    (k : AL P ops cx Q rest l ((u, .row 2 e (ptRs (xs.set i (a, p.2)))) :: m) n) : AL P ops cx Q (⟨none, .store t x y, ty, pos, af, none⟩ :: rest) l m n := by
  rw [← ptRs_set] at k
  exact al_s (opx_st1_el (rows := ptRs xs) (row := ptR p) (ptRs_at hi) (by omega)) ⟨hx, hy, trivial⟩ ⟨ho, trivial⟩ k
theorem al_stP1 {t : TypeId} [hT : TyOne P t] {xs : List (Int × Int)} {i : Nat} {a : Int} {p : Int × Int} (hx : Ag (lk .dead l) x (.el u 2 i 1)) (hy : Ag (lk .dead l) y (.c (cI a))) (ho : lk .gone m u = .row 2 e (ptRs xs)) (hi : xs[i]? = some p)
    (k : AL P ops cx Q rest l ((u, .row 2 e (ptRs (xs.set i (p.1, a)))) :: m) n) : AL P ops cx Q (⟨none, .store t x y, ty, pos, af, none⟩ :: rest) l m n := by
  rw [← ptRs_set] at k
  exact al_s (opx_st1_el (rows := ptRs xs) (row := ptR p) (ptRs_at hi) (by omega)) ⟨hx, hy, trivial⟩ ⟨ho, trivial⟩ k
theorem al_stI {t : TypeId} [hT : TyOne P t] {xs : List (Int)} {i : Nat} {a : Int} {p : Int} (hx : Ag (lk .dead l) x (.el u 1 i 0)) (hy : Ag (lk .dead l) y (.i a)) (ho : lk .gone m u = .row 1 e (inRs xs)) (hi : xs[i]? = some p)
    (k : AL P ops cx Q rest l ((u, .row 1 e (inRs (xs.set i a))) :: m) n) : AL P ops cx Q (⟨none, .store t x y, ty, pos, af, none⟩ :: rest) l m n := by
  have e1 : (inRs xs).set i ((inR p).set 0 (cI a)) = inRs (xs.set i a) := inRs_set
  rw [← e1] at k
  exact al_s (opx_st1_el (rows := inRs xs) (row := inR p) (inRs_at hi) (by omega)) ⟨hx, hy, trivial⟩ ⟨ho, trivial⟩ k
theorem al_stB {t : TypeId} [hT : TyOne P t] {xs : List (UInt8)} {i : Nat} {a : UInt8} {p : UInt8} (hx : Ag (lk .dead l) x (.el u 1 i 0)) (hy : Ag (lk .dead l) y (.raw (.int .u8 a.toNat))) (ho : lk .gone m u = .row 1 e (byRs xs)) (hi : xs[i]? = some p)
    (k : AL P ops cx Q rest l ((u, .row 1 e (byRs (xs.set i a))) :: m) n) : AL P ops cx Q (⟨none, .store t x y, ty, pos, af, none⟩ :: rest) l m n := by
  have e1 : (byRs xs).set i ((byR p).set 0 (.raw (.int .u8 a.toNat))) = byRs (xs.set i a) := byRs_set
  rw [← e1] at k
  exact al_s (opx_st1_el (rows := byRs xs) (row := byR p) (byRs_at hi) (by omega)) ⟨hx, hy, trivial⟩ ⟨ho, trivial⟩ k
theorem al_stL {t : TypeId} [hT : TyStr P t 2] {xs : List (Str × Str)} {i : Nat} {a b : Str} (hx : Ag (lk .dead l) x (.el u 2 i 0)) (hy : Ag (lk .dead l) y (.agg [.c (cS a), .c (cS b)])) (ho : lk .gone m u = .row 2 e (lbRs xs)) (hi : i < xs.length)
    (k : AL P ops cx Q rest l ((u, .row 2 e (lbRs (xs.set i (a, b)))) :: m) n) : AL P ops cx Q (⟨none, .store t x y, ty, pos, af, none⟩ :: rest) l m n := by
  rw [← lbRs_set] at k
  exact al_s (opx_sts_el (rows := lbRs xs) (row := lbR (a, b)) rfl rfl (by rw [lbRs_len]; exact hi)) ⟨hx, hy, trivial⟩ ⟨ho, trivial⟩ k
theorem al_stL0 {t : TypeId} [hT : TyOne P t] {xs : List (Str × Str)} {i : Nat} {a : Str} {p : Str × Str} (hx : Ag (lk .dead l) x (.el u 2 i 0)) (hy : Ag (lk .dead l) y (.c (cS a))) (ho : lk .gone m u = .row 2 e (lbRs xs)) (hi : xs[i]? = some p)
    (k : AL P ops cx Q rest l ((u, .row 2 e (lbRs (xs.set i (a, p.2)))) :: m) n) : AL P ops cx Q (⟨none, .store t x y, ty, pos, af, none⟩ :: rest) l m n := by
  rw [← lbRs_set] at k
  exact al_s (opx_st1_el (rows := lbRs xs) (row := lbR p) (lbRs_at hi) (by omega)) ⟨hx, hy, trivial⟩ ⟨ho, trivial⟩ k
theorem al_stL1 {t : TypeId} [hT : TyOne P t] {xs : List (Str × Str)} {i : Nat} {a : Str} {p : Str × Str} (hx : Ag (lk .dead l) x (.el u 2 i 1)) (hy : Ag (lk .dead l) y (.c (cS a))) (ho : lk .gone m u = .row 2 e (lbRs xs)) (hi : xs[i]? = some p)
    (k : AL P ops cx Q rest l ((u, .row 2 e (lbRs (xs.set i (p.1, a)))) :: m) n) : AL P ops cx Q (⟨none, .store t x y, ty, pos, af, none⟩ :: rest) l m n := by
  rw [← lbRs_set] at k
  exact al_s (opx_st1_el (rows := lbRs xs) (row := lbR p) (lbRs_at hi) (by omega)) ⟨hx, hy, trivial⟩ ⟨ho, trivial⟩ k
theorem al_stS {t : TypeId} [hT : TyOne P t] {xs : List (Str)} {i : Nat} {a : Str} {p : Str} (hx : Ag (lk .dead l) x (.el u 1 i 0)) (hy : Ag (lk .dead l) y (.str a)) (ho : lk .gone m u = .row 1 e (stRs xs)) (hi : xs[i]? = some p)
    (k : AL P ops cx Q rest l ((u, .row 1 e (stRs (xs.set i a))) :: m) n) : AL P ops cx Q (⟨none, .store t x y, ty, pos, af, none⟩ :: rest) l m n := by
  have e1 : (stRs xs).set i ((stR p).set 0 (cS a)) = stRs (xs.set i a) := stRs_set
  rw [← e1] at k
  exact al_s (opx_st1_el (rows := stRs xs) (row := stR p) (stRs_at hi) (by omega)) ⟨hx, hy, trivial⟩ ⟨ho, trivial⟩ k
theorem al_stC {t : TypeId} [hT : TyOne P t] {xs : List (List (Str × Str))} {i : Nat} {a : List (Str × Str)} {p : List (Str × Str)} (hx : Ag (lk .dead l) x (.el u 1 i 0)) (hy : Ag (lk .dead l) y (.sl 2 (lbRs a))) (ho : lk .gone m u = .row 1 e (lcRs xs)) (hi : xs[i]? = some p)
    (k : AL P ops cx Q rest l ((u, .row 1 e (lcRs (xs.set i a))) :: m) n) : AL P ops cx Q (⟨none, .store t x y, ty, pos, af, none⟩ :: rest) l m n := by
  have e1 : (lcRs xs).set i ((lcR p).set 0 (.sl 2 (lbRs a))) = lcRs (xs.set i a) := lcRs_set
  rw [← e1] at k
  exact al_s (opx_st1_el (rows := lcRs xs) (row := lcR p) (lcRs_at hi) (by omega)) ⟨hx, hy, trivial⟩ ⟨ho, trivial⟩ k
theorem al_stQ {t : TypeId} [hT : TyOne P t] {xs : List (List (Int × Int))} {i : Nat} {a : List (Int × Int)} {p : List (Int × Int)} (hx : Ag (lk .dead l) x (.el u 1 i 0)) (hy : Ag (lk .dead l) y (.sl 2 (ptRs a))) (ho : lk .gone m u = .row 1 e (plRs xs)) (hi : xs[i]? = some p)
    (k : AL P ops cx Q rest l ((u, .row 1 e (plRs (xs.set i a))) :: m) n) : AL P ops cx Q (⟨none, .store t x y, ty, pos, af, none⟩ :: rest) l m n := by
  have e1 : (plRs xs).set i ((plR' p).set 0 (.sl 2 (ptRs a))) = plRs (xs.set i a) := plRs_set
  rw [← e1] at k
  exact al_s (opx_st1_el (rows := plRs xs) (row := plR' p) (plRs_at hi) (by omega)) ⟨hx, hy, trivial⟩ ⟨ho, trivial⟩ k
theorem al_stM {t : TypeId} [hT : TyStr P t 2] {xs : List (List (Str × Str) × Int)} {i : Nat} {a : List (Str × Str)} {b : Int} (hx : Ag (lk .dead l) x (.el u 2 i 0)) (hy : Ag (lk .dead l) y (.agg [.c (.sl 2 (lbRs a)), .c (cI b)])) (ho : lk .gone m u = .row 2 e (smRs xs)) (hi : i < xs.length)
    (k : AL P ops cx Q rest l ((u, .row 2 e (smRs (xs.set i (a, b)))) :: m) n) : AL P ops cx Q (⟨none, .store t x y, ty, pos, af, none⟩ :: rest) l m n := by
  rw [← smRs_set] at k
  exact al_s (opx_sts_el (rows := smRs xs) (row := smR (a, b)) rfl rfl (by rw [smRs_len]; exact hi)) ⟨hx, hy, trivial⟩ ⟨ho, trivial⟩ k
theorem al_stM0 {t : TypeId} [hT : TyOne P t] {xs : List (List (Str × Str) × Int)} {i : Nat} {a : List (Str × Str)} {p : List (Str × Str) × Int} (hx : Ag (lk .dead l) x (.el u 2 i 0)) (hy : Ag (lk .dead l) y (.c (.sl 2 (lbRs a)))) (ho : lk .gone m u = .row 2 e (smRs xs)) (hi : xs[i]? = some p)
    (k : AL P ops cx Q rest l ((u, .row 2 e (smRs (xs.set i (a, p.2)))) :: m) n) : AL P ops cx Q (⟨none, .store t x y, ty, pos, af, none⟩ :: rest) l m n := by
  rw [← smRs_set] at k
  exact al_s (opx_st1_el (rows := smRs xs) (row := smR p) (smRs_at hi) (by omega)) ⟨hx, hy, trivial⟩ ⟨ho, trivial⟩ k
theorem al_stM1 {t : TypeId} [hT : TyOne P t] {xs : List (List (Str × Str) × Int)} {i : Nat} {a : Int} {p : List (Str × Str) × Int} (hx : Ag (lk .dead l) x (.el u 2 i 1)) (hy : Ag (lk .dead l) y (.c (cI a))) (ho : lk .gone m u = .row 2 e (smRs xs)) (hi : xs[i]? = some p)
    (k : AL P ops cx Q rest l ((u, .row 2 e (smRs (xs.set i (p.1, a)))) :: m) n) : AL P ops cx Q (⟨none, .store t x y, ty, pos, af, none⟩ :: rest) l m n := by
  rw [← smRs_set] at k
  exact al_s (opx_st1_el (rows := smRs xs) (row := smR p) (smRs_at hi) (by omega)) ⟨hx, hy, trivial⟩ ⟨ho, trivial⟩ k
end
end Go.Proofs.YtllgddednlfhfaaDoor

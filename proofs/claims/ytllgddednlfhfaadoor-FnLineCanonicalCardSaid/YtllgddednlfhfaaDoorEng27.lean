/-
  Slices against nil; bytes as a string; remainders and conversions of bytes.
-/
import Derived.Test.YtllgddednlfhfaaDoorEng24
import Derived.Test.YtllgddednlfhfaaDoorDat3
import Derived.Lib.SlBytesRow
namespace Go.Proofs.YtllgddednlfhfaaDoor
open Go.RowKit
set_option linter.unusedVariables false
set_option linter.unusedSimpArgs false
section
variable {P : Program}
theorem run_eqNil {w : World} {T e wd bytes : Nat} {zs : List Value} (hT : SlT P T e wd bytes zs) {A : Option Addr} {n c : Nat} :
    (Op.equal T (.slice A n c) (.slice none 0 0)).run P w = .ok A.isNone w := by
  obtain ⟨i, z, hu, _⟩ := sl_parts hT
  unfold Op.equal Op.equalIn Op.maxDepth
  rw [Sem.run_bind, run_underlying hu]
  cases A <;> rfl
variable {d : Nat} {x y z : Operand} {t t' ty : TypeId} {pos : String} {af : Array Edge} {gd : Option (Nat × Bool)}
theorem opx_eqNil (RO : List (Nat × OB)) {e wd wd' bytes : Nat} {zs : List Value} [hT : SlT P t e wd bytes zs] {av : AV} {rows : List (List CV)} (h : ∀ O, OgL O RO → SlV O av wd' rows) (hne : 0 < rows.length) :
    OpX P ⟨some d, .binOp .eql t x y t', ty, pos, af, gd⟩ [(x, av), (y, .raw (.slice none 0 0))] RO [] [(d, .b false)] [] :=
  opx_val rfl fun cx S O V a w ρ Z hg hR hO => by
    obtain ⟨A, c, us, h1, h2, h3, h4, h5, h6⟩ := slv_read hg (h O hO) (hg.ag hR.1)
    obtain ⟨b, o, rfl, _⟩ := h6 hne
    have h7 := da_raw (hg.ag hR.2.1)
    refine ⟨.bool false, ?_, da_mk rfl, by simp [AV.tags, AR.tags, A1.tag]⟩
    simp only [execOp, h1, h7, eqGuard, binOp]
    simp [run_eqNil hT]
theorem opx_eqNil_own {u : Nat} {e e' wd wd' bytes : Nat} {zs : List Value} [hT : SlT P t e wd bytes zs] {rows : List (List CV)} (hne : 0 < rows.length) :
    OpX P ⟨some d, .binOp .eql t x y t', ty, pos, af, gd⟩ [(x, .own u), (y, .raw (.slice none 0 0))] [(u, .row wd' e' rows)] [] [(d, .b false)] [] :=
  opx_eqNil [(u, .row wd' e' rows)] (av := .own u) (fun O h => .inr ⟨_, h.1⟩) hne
theorem opx_eqNil_sl {e wd wd' bytes : Nat} {zs : List Value} [hT : SlT P t e wd bytes zs] {rows : List (List CV)} (hne : 0 < rows.length) :
    OpX P ⟨some d, .binOp .eql t x y t', ty, pos, af, gd⟩ [(x, .sl wd' rows), (y, .raw (.slice none 0 0))] [] [] [(d, .b false)] [] :=
  opx_eqNil [] (av := .sl wd' rows) (fun O h => ⟨rfl, rfl⟩) hne
theorem opx_eqNil_nil {e wd bytes : Nat} {zs : List Value} [hT : SlT P t e wd bytes zs] :
    OpX P ⟨some d, .binOp .eql t x y t', ty, pos, af, gd⟩ [(x, .raw (.slice none 0 0)), (y, .raw (.slice none 0 0))] [] [] [(d, .b true)] [] :=
  opx_val rfl fun cx S O V a w ρ Z hg hR hO => by
    have h1 := da_raw (hg.ag hR.1)
    have h7 := da_raw (hg.ag hR.2.1)
    refine ⟨.bool true, ?_, da_mk rfl, by simp [AV.tags, AR.tags, A1.tag]⟩
    simp only [execOp, h1, h7, eqGuard, binOp]
    simp [run_eqNil hT]
/-! ### bytes -/
theorem opx_remk {k : IntKind} {m n : Int} (h0 : 0 ≤ m) (h1 : n ≠ 0) : OpX P ⟨some d, .binOp .rem t x y t', ty, pos, af, gd⟩ [(x, .raw (.int k m)), (y, .raw (.int k n))] [] [] [(d, .raw (.int k (m % n)))] [] :=
  opx_int .rem k m n _ rfl fun w x y => by
    simp [eqGuard, binOp, Op.intDiv, h1, IntWalk.rem_in m n h0]
theorem opx_mulE {m n r : Int} (he : m * n = r) (h : InR r) : OpX P ⟨some d, .binOp .mul t x y t', ty, pos, af, gd⟩ [(x, .i m), (y, .i n)] [] [] [(d, .i r)] [] := by
  subst he; exact opx_mul h
/-- 'byte(n)' -/
theorem opx_byte {src dst : TypeId} [h : CvT P src dst .u8] {n : Int} {k : Nat} (hn : n = (k : Int)) (hk : k < 256) : OpX P ⟨some d, .convert src dst x, ty, pos, af, gd⟩ [(x, .i n)] [] [] [(d, .raw (.int .u8 (UInt8.ofNat k).toNat))] [] :=
  opx_conv (by
    subst hn
    have : (UInt8.ofNat k).toNat = k := by rw [UInt8.toNat_ofNat']; omega
    rw [this]
    exact IntWalk.u8_in _ (by omega))
/-- 'int(c)' of what is a byte -/
theorem opx_intOf {src dst : TypeId} [h : CvT P src dst .i64] {q : IntKind} {n : Int} (hn : 0 ≤ n ∧ n ≤ 9223372036854775807) : OpX P ⟨some d, .convert src dst x, ty, pos, af, gd⟩ [(x, .raw (.int q n))] [] [] [(d, .i n)] [] :=
  opx_conv (wrap_in ⟨by omega, hn.2⟩)
theorem byRs_cells {Z : Nat → Prop} {w : World} : ∀ {bs : List UInt8} {us : List Value}, DL Z w (byRs bs).flatten us → us = bs.map fun b => Value.int .u8 b.toNat
  | [], [], _ => rfl
  | [], _ :: _, h => h.elim
  | b :: bs, u :: us, h => by
    have h1 : DC Z w (.raw (.int .u8 b.toNat)) u := h.1
    have h2 := byRs_cells (bs := bs) (us := us) h.2
    cases h1
    rw [h2]; rfl
  | _ :: _, [], h => h.elim
theorem opx_bstr (RO : List (Nat × OB)) {src dst e wd bytes : Nat} {zs : List Value} [hT : SlT P src e wd bytes zs] [hS : StrT P dst] (he : P.underlying e = some (.int .u8)) {av : AV} {bs : List UInt8} (h : ∀ O, OgL O RO → SlV O av 1 (byRs bs)) :
    OpX P ⟨some d, .convert src dst x, ty, pos, af, gd⟩ [(x, av)] RO [] [(d, .str bs)] [] :=
  opx_val rfl fun cx S O V a w ρ Z hg hR hO => by
    obtain ⟨A, c, us, h1, h2, h3, h4, h5, h6⟩ := slv_read hg (h O hO) (hg.ag hR.1)
    obtain ⟨i, z, hu, _⟩ := sl_parts hT
    have hlen : (byRs bs).length = bs.length := byRs_len
    refine ⟨.string ⟨bs.toArray⟩, ?_, da_mk rfl, by simp [AV.tags, AR.tags, A1.tag]⟩
    rcases Nat.eq_zero_or_pos bs.length with h0 | h0
    · obtain rfl := List.eq_nil_of_length_eq_zero h0
      have hc : (convert src dst (.slice A 0 c)).run P w = .ok (.string ⟨#[]⟩) w := by
        cases A with
        | none => simp [convert, run_underlying hu, run_underlying hS.ok, run_underlying he, Conv.bytesToString]; rfl
        | some a0 => simp [convert, run_underlying hu, run_underlying hS.ok, run_underlying he, Conv.bytesToString, loadCells, loadCellsFrom]; rfl
      simp only [execOp, h1]
      rw [Sem.run_bind, show (byRs ([] : List UInt8)).length = 0 from rfl, hc]; rfl
    · obtain ⟨b, o, rfl, h7⟩ := h6 (by omega)
      have hus := byRs_cells h5
      have hB : Lib.Bytes w b o ⟨bs.toArray⟩ := fun i hi => by
        have hi' : i < bs.length := by simpa [ByteArray.size] using hi
        refine (h7 i _ (by rw [hus, List.getElem?_map, List.getElem?_eq_getElem hi']; rfl)).trans ?_
        congr 2
      have hc := Lib.run_convert_whole (P := P) w src e dst hu he hS.ok b o ⟨bs.toArray⟩ hB c
      have hsz : (⟨bs.toArray⟩ : ByteArray).size = bs.length := by simp [ByteArray.size]
      rw [hsz] at hc
      simp only [execOp, h1, hlen]
      rw [Sem.run_bind, hc]; rfl
theorem opx_bstr_sl {src dst e wd bytes : Nat} {zs : List Value} [hT : SlT P src e wd bytes zs] [hS : StrT P dst] (he : P.underlying e = some (.int .u8)) {bs : List UInt8} :
    OpX P ⟨some d, .convert src dst x, ty, pos, af, gd⟩ [(x, .sl 1 (byRs bs))] [] [] [(d, .str bs)] [] :=
  opx_bstr [] he (av := .sl 1 (byRs bs)) fun O _ => ⟨rfl, rfl⟩
end
section
variable {P : Program} {ops : Array Oper} {cx : Cx} {Q : APost} {rest : List Oper} {l : SL} {m : OL} {n d : Nat} {x : Operand} {ty : TypeId} {pos : String} {af : Array Edge} {T e bytes : Nat} {zs : List Value}
/-- '[]byte{c}' -/
theorem al_litB1 [hT : SlT P T e 1 bytes zs] {a : UInt8} (hx : Ag (lk .dead l) x (.raw (.int .u8 a.toNat))) (hd : Nat.blt d cx.N = true)
    (k : AL P ops cx Q rest ((d, .own n) :: l) ((n, .row 1 e (byRs [a])) :: m) (n + 1)) : AL P ops cx Q (⟨some d, .buildSlice T 1 #[(0, x)], ty, pos, af, none⟩ :: rest) l m n :=
  al_n (opx_lit1 (S := lk .dead l) (u := n) (cs := [.raw (.int .u8 a.toNat)]) (.cons hx (.nil _)) rfl rfl) ⟨hx, trivial⟩ trivial hd k
end
section
variable {P : Program} {ol : List Oper} {cx : Cx} {Q : APost} {done : List Keys} {rest : List Oper} {l : SL} {m : OL} {n : Nat}
variable {d u : Nat} {T e ty : TypeId} {bytes : Nat} {zs : List Value} {x y : Operand} {pos : String} {af : Array Edge}
theorem ad_litB1 [hT : SlT P T e 1 bytes zs] {a : UInt8} (hx : Ag (lk .dead l) x (.raw (.int .u8 a.toNat))) (hd : Nat.blt d cx.N = true)
    (k : AD P ol cx Q (⟨rtmps (rdParts [(0, x)] ([(.raw (.int .u8 a.toNat))].map fun c => .one (.c c))), [d], [], [n], [n]⟩ :: done) rest ((d, .own n) :: l) ((n, .row 1 e (byRs [a])) :: m) (n + 1)) :
    AD P ol cx Q done (⟨some d, .buildSlice T 1 #[(0, x)], ty, pos, af, none⟩ :: rest) l m n :=
  ad_n (opx_lit1 (S := lk .dead l) (u := n) (cs := [.raw (.int .u8 a.toNat)]) (.cons hx (.nil _)) rfl rfl) ⟨hx, trivial⟩ trivial hd k
theorem ad_appBr [hT : SlT P T e 1 bytes zs] {xs ys : List UInt8} {t : Nat} {e' : TypeId} (hx : Ag (lk .dead l) x (.own t)) (ht : lk .gone m t = .row 1 e' (byRs ys)) (hy : Ag (lk .dead l) y (.own u)) (ho : lk .gone m u = .row 1 e (byRs xs))
    (hb : Nat.ble bytes 1000 = true) (hd : Nat.blt d cx.N = true) (hl : xs.length + ys.length ≤ 1000000000)
    (k : AD P ol cx Q (⟨rtmps [(y, .own u), (x, .own t)], [d], [u, t], [n, u], [n]⟩ :: done) rest ((d, .own n) :: l) ((n, .row 1 e (byRs (xs ++ ys))) :: (u, .gone) :: m) (n + 1)) :
    AD P ol cx Q done (⟨some d, .call { callee := .builtin .append, args := #[y, x], argTypes := #[T, T] }, ty, pos, af, none⟩ :: rest) l m n :=
  ad_app (av := .own t) (news := byRs ys) [(t, .row 1 e' (byRs ys))] (rows := byRs xs) (fun O hO => .inr ⟨e', hO.1⟩) byRs_cat hx hy ho ⟨ht, trivial⟩ hb hd (by rw [byRs_len, byRs_len]; exact hl) k
end
end Go.Proofs.YtllgddednlfhfaaDoor

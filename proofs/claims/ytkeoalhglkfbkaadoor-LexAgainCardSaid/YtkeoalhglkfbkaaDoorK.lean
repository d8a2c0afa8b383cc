/-
  LexTells answers true for any text. No conditions.
-/
import Derived.Test.YtkeoalhglkfbkaaDoorJ
set_option linter.unusedVariables false
set_option linter.unusedSimpArgs false
namespace Go.Proofs.YtkeoalhglkfbkaaDoor
open Go Hk

theorem tok_len (t : Token) : t.cells.length = 4 := rfl
theorem tok_take (t : Token) : t.cells.take 4 = t.cells := rfl
theorem aeq_token (x y : Token) : aeqAgg [.i, .i, .i, .s] (.agg x.cells) (.agg y.cells) = some (decide (x = y)) := by
  obtain ⟨a, b, c, d⟩ := x
  obtain ⟨a', b', c', d'⟩ := y
  by_cases h1 : a = a' <;> by_cases h2 : b = b' <;> by_cases h3 : c = c' <;> by_cases h4 : d = d' <;>
    (simp [Token.cells, aeqAgg, aeqAll, aeqK, h1, h2, h3, h4]; try omega)

theorem m22_loop (l : List Token) (hl : l.length ≤ 9223372036854775807) :
    lpW (m22_l0 KK 0) ([.slice (l.map Token.cells) .no, .slice (l.map Token.cells) .no, .bool false, .int .i64 (0 : Nat)], []) =
      some (.exit 0, [.slice (l.map Token.cells) .no, .slice (l.map Token.cells) .no, .bool false, .int .i64 (l.length : Nat)], []) := by
  refine lpW_measure (σ := Nat) (fun i => ([.slice (l.map Token.cells) .no, .slice (l.map Token.cells) .no, .bool false, .int .i64 i], [])) (fun i => i ≤ l.length) (fun i => l.length - i) (fun _ => _) ?_ 0 (Nat.zero_le _)
  intro i hi
  by_cases h : i < l.length
  · left
    have hx : l[i]? = some l[i] := List.getElem?_eq_getElem h
    have w : IntKind.wrap .i64 ((i : Int) + 1) = ((i + 1 : Nat) : Int) := by rw [wrap64] <;> omega
    refine ⟨i + 1, ?_, by omega, by omega, rfl⟩
    simp [m22_l0, h, hx, tok_len, tok_take, aeq_token, w, endR_zero]
  · right
    obtain rfl : i = l.length := by omega
    refine ⟨?_, by simp⟩
    simp [m22_l0, endR_zero]

theorem c22 (l : List Token) (hl : l.length ≤ 9223372036854775807) (h : Heap) : KK 22 [.slice (l.map Token.cells) .no, .slice (l.map Token.cells) .no] h = some (.ret (.bool true), h) := by
  refine callP_pure rfl rfl (evW_by (m22_eq _ _ _ _) ?_)
  have hlp := m22_loop l hl
  simp only [Int.ofNat_eq_natCast, Int.cast_ofNat_Int] at hlp
  simp [m22, hlp, finR_zero]

theorem lexFrom_len (s : List UInt8) (a : Nat) (out : List Token) (ha : a ≤ s.length) : (lexFrom s a out).1.length ≤ out.length + (s.length - a) + 1 := by
  fun_induction lexFrom s a out with
  | case1 a out h h1 => simp
  | case2 a out h t n h1 ih =>
    have := oneS_pos h1
    simp only [List.length_drop] at this
    have hge := skipTo_ge s a
    have := ih (by omega)
    simp at this
    omega
  | case3 a out h => simp
theorem lexS_len (s : List UInt8) : (lexS s).1.length ≤ 65537 := by
  unfold lexS
  split
  · simp
  · have := lexFrom_len s 0 [] (Nat.zero_le _)
    simp at this
    omega

/-! ### The document's examples -/

def ex1 : List UInt8 := [97, 60, 60, 48, 120, 49, 70]
def ex2 : List UInt8 := [97, 60, 60, 48, 120, 49, 102]
theorem lex_step {s : List UInt8} {a a' n : Nat} {out : List Token} {t : Token} (h1 : skipTo s a = a') (h2 : a' < s.length) (h3 : oneS (s.drop a') a' = some (t, n)) {a2 : Nat} (h4 : a' + max 1 n = a2) : lexFrom s a out = lexFrom s a2 (out ++ [t]) := by
  subst h1; subst h4
  rw [lexFrom, dif_pos h2, h3]
theorem lex_bad {s : List UInt8} {a a' : Nat} {out : List Token} (h1 : skipTo s a = a') (h2 : a' < s.length) (h3 : oneS (s.drop a') a' = none) : lexFrom s a out = ([], 9, a') := by
  subst h1
  rw [lexFrom, dif_pos h2, h3]
theorem lex_end {s : List UInt8} {a : Nat} {out : List Token} (h1 : ¬ skipTo s a < s.length) : lexFrom s a out = (out ++ [⟨0, s.length, 0, []⟩], 0, 0) := by
  rw [lexFrom, dif_neg h1]
theorem skip_here {s : List UInt8} {a : Nat} {b : UInt8} (h : s[a]? = some b) (hb : isBlank b = false) (h2 : b ≠ 47) : skipTo s a = a := by
  obtain ⟨hlt, he⟩ := List.getElem?_eq_some_iff.1 h
  rw [skipTo, dif_pos hlt, he, hb]
  simp only [Bool.false_eq_true, if_false]
  rw [if_neg]
  intro ht
  have := (take_two hlt).1 ht
  rw [he] at this
  exact h2 this.1

theorem lex1 : lexS ex1 = ([], 9, 3) := by
  have e0 : lexS ex1 = lexFrom ex1 0 [] := rfl
  have e1 := lex_step (out := []) (skip_here (s := ex1) (a := 0) (b := 97) rfl rfl (by decide)) (by decide) (t := ⟨1, 0, 0, [97]⟩) (n := 1) (by decide) (a2 := 1) rfl
  have e2 := lex_step (out := [⟨1, 0, 0, [97]⟩]) (skip_here (s := ex1) (a := 1) (b := 60) rfl rfl (by decide)) (by decide) (t := ⟨4, 1, 0, [60, 60]⟩) (n := 2) (by decide) (a2 := 3) rfl
  have e3 := lex_bad (out := [⟨1, 0, 0, [97]⟩] ++ [⟨4, 1, 0, [60, 60]⟩]) (skip_here (s := ex1) (a := 3) (b := 48) rfl rfl (by decide)) (by decide) (by decide)
  exact e0.trans (e1.trans (e2.trans e3))
theorem lex2 : lexS ex2 = ([⟨1, 0, 0, [97]⟩, ⟨4, 1, 0, [60, 60]⟩, ⟨2, 3, 31, []⟩, ⟨0, 7, 0, []⟩], 0, 0) := by
  have e0 : lexS ex2 = lexFrom ex2 0 [] := rfl
  have hend : skipTo ex2 7 = 7 := by rw [skipTo, dif_neg (by decide)]
  have e1 := lex_step (out := []) (skip_here (s := ex2) (a := 0) (b := 97) rfl rfl (by decide)) (by decide) (t := ⟨1, 0, 0, [97]⟩) (n := 1) (by decide) (a2 := 1) rfl
  have e2 := lex_step (out := [⟨1, 0, 0, [97]⟩]) (skip_here (s := ex2) (a := 1) (b := 60) rfl rfl (by decide)) (by decide) (t := ⟨4, 1, 0, [60, 60]⟩) (n := 2) (by decide) (a2 := 3) rfl
  have e3 := lex_step (out := [⟨1, 0, 0, [97]⟩, ⟨4, 1, 0, [60, 60]⟩]) (skip_here (s := ex2) (a := 3) (b := 48) rfl rfl (by decide)) (by decide) (t := ⟨2, 3, 31, []⟩) (n := 4) (by decide) (a2 := 7) rfl
  have e4 := lex_end (s := ex2) (a := 7) (out := [⟨1, 0, 0, [97]⟩, ⟨4, 1, 0, [60, 60]⟩, ⟨2, 3, 31, []⟩]) (by rw [hend]; decide)
  exact e0.trans (e1.trans (e2.trans (e3.trans e4)))

theorem aeq_bad {k : IntKind} {a b c d : Int} : aeqAgg [.i, .i] (.agg [.int k a, .int k b]) (.agg [.int k c, .int k d]) = some (decide (a = c) && decide (b = d)) := by
  by_cases h1 : a = c <;> by_cases h2 : b = d <;> simp [aeqAgg, aeqAll, aeqK, h1, h2]

theorem m23_gen (l1 l2 : List Token) (e1 p1 e2 p2 : Int) (t1 t2 : Token) (h1 : ∀ h, KK 20 [.str [97, 60, 60, 48, 120, 49, 70]] h = some (.ret (.tuple [.slice (l1.map Token.cells) .no, .agg [.int .i64 e1, .int .i64 p1]]), h))
    (h2 : ∀ h, KK 20 [.str [97, 60, 60, 48, 120, 49, 102]] h = some (.ret (.tuple [.slice (l2.map Token.cells) .no, .agg [.int .i64 e2, .int .i64 p2]]), h)) (he1 : e1 = 9) (hp1 : p1 = 3) (he2 : e2 = 0) (hp2 : p2 = 0)
    (hl : l2.length = 4) (ht1 : l2[1]? = some t1) (ht2 : l2[2]? = some t2) (hx : t1.text = [60, 60]) (hy : t2.num = 31) : m23 KK [] = some (.ret (.bool true), []) := by
  have g1 : aindexSl 4 (.slice (l2.map Token.cells) .no) (.int .i64 1) = some (.pptr t1.cells) := by
    have := aindexSl_map (enc := Token.cells) (sz := 4) (xs := l2) (t := .no) (k := .i64) (i := 1)
    rw [ht1] at this; simpa [tok_len] using this
  have g2 : aindexSl 4 (.slice (l2.map Token.cells) .no) (.int .i64 2) = some (.pptr t2.cells) := by
    have := aindexSl_map (enc := Token.cells) (sz := 4) (xs := l2) (t := .no) (k := .i64) (i := 2)
    rw [ht2] at this; simpa [tok_len] using this
  have c1 : t1.cells.drop 3 = [.str t1.text] := rfl
  have c2 : t2.cells.drop 2 = [.int .i64 (t2.num : Int), .str t2.text] := rfl
  have hy' : (t2.num : Int) = 31 := by omega
  simp -implicitDefEqProofs [m23, h1, h2, anew, tokCells, putCells, abuild, aeq_bad, he1, hp1, he2, hp2, hl, g1, g2, c1, c2, hx, hy', finR_zero]

theorem c23 (h : Heap) : KK 23 [] h = some (.ret (.bool true), h) := by
  refine callP_pure rfl rfl (evW_by (m23_eq _ _) ?_)
  have h1 := c20 ex1
  have h2 := c20 ex2
  rw [lex1] at h1
  rw [lex2] at h2
  exact m23_gen [] [⟨1, 0, 0, [97]⟩, ⟨4, 1, 0, [60, 60]⟩, ⟨2, 3, 31, []⟩, ⟨0, 7, 0, []⟩] _ _ _ _ ⟨4, 1, 0, [60, 60]⟩ ⟨2, 3, 31, []⟩ h1 h2 rfl rfl rfl rfl rfl rfl rfl rfl rfl

/-- THE LAW. -/
theorem lexTells (s : List UInt8) : evW Tryd.prog ann 3 [.str s] [] = some (.ret (.bool true), []) := by
  refine evW_by (m3_eq _ _ _) ?_
  have h1 := c20 s
  have h2 := c21 s
  have h22 := c22 (lexS s).1 (by have := lexS_len s; omega)
  have h23 := c23
  generalize lexS s = r at *
  obtain ⟨l, e, p⟩ := r
  simp only [] at h1 h2 h22
  simp [m3, h1, h2, h22, h23, anew, tokCells, putCells, finR_zero]

end Go.Proofs.YtkeoalhglkfbkaaDoor

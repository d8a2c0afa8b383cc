/-
  LexJoins answers true, by the evaluator: the whole function. No conditions.
-/
import Derived.Test.YtkeoalhglkfbkaaDoorO
set_option linter.unusedVariables false
set_option linter.unusedSimpArgs false
namespace Go.Proofs.YtkeoalhglkfbkaaDoor
open Go Hk

theorem lexFrom_bad (s : List UInt8) (a : Nat) (out : List Token) : (lexFrom s a out).2.2 ≤ s.length := by
  fun_induction lexFrom s a out with
  | case1 a out h h3 => exact Nat.le_of_lt h
  | case2 a out h t n h3 ih => exact ih
  | case3 a out h => exact Nat.zero_le _
theorem lexS_bad (s : List UInt8) : (lexS s).2.2 ≤ s.length := by
  unfold lexS
  split
  · exact Nat.zero_le _
  · exact lexFrom_bad s 0 []

def RT (l : List Token) (e p : Nat) : Res := .ret (.tuple [.slice (l.map Token.cells) .no, .agg [.int .i64 (e : Nat), .int .i64 (p : Nat)]])

section
variable (s t : List UInt8)

theorem m4_long (h : 20000 < s.length ∨ 20000 < t.length) : m4 KK (.str s) (.str t) [] = some (.ret (.bool true), []) := by
  by_cases hs : 20000 < s.length
  · have hs' : (20000 : Int) < s.length := by omega
    simp -implicitDefEqProofs [m4, hs, hs', c23, finR_zero]
  · have hs' : ¬ (20000 : Int) < s.length := by omega
    have ht : 20000 < t.length := by omega
    have ht' : (20000 : Int) < t.length := by omega
    simp -implicitDefEqProofs [m4, hs, hs', ht, ht', c23, finR_zero]

theorem m4_bad1 (hs : s.length ≤ 20000) (ht : t.length ≤ 20000) (p : Nat) (l : List Token) (f q : Nat) (k1 : ∀ h, KK 20 [.str s] h = some (RT [] 9 p, h)) (k2 : ∀ h, KK 20 [.str t] h = some (RT l f q, h)) (k3 : ∀ h, KK 20 [.str (s ++ 10 :: t)] h = some (RT [] 9 p, h)) :
    m4 KK (.str s) (.str t) [] = some (.ret (.bool true), []) := by
  have hs0 : ¬ 20000 < s.length := by omega
  have hs' : ¬ (20000 : Int) < s.length := by omega
  have ht0 : ¬ 20000 < t.length := by omega
  have ht' : ¬ (20000 : Int) < t.length := by omega
  have b1 : s.length ≤ 4611686018427387903 := by omega
  have b2 : s.length + (t.length + 1) ≤ 4611686018427387904 := by omega
  have b3 : s.length + 1 + t.length ≤ 4611686018427387904 := by omega
  simp only [RT, List.map_nil] at k1 k2 k3
  generalize l.map Token.cells = L at *
  simp -implicitDefEqProofs [m4, hs0, hs', ht0, ht', c23, k1, k2, k3, b1, b2, b3, anew, tokCells, putCells, aeq_bad, finR_zero]

theorem m4_bad2 (hs : s.length ≤ 20000) (ht : t.length ≤ 20000) (p : Nat) (hp : p ≤ t.length) (l : List Token) (k1 : ∀ h, KK 20 [.str s] h = some (RT l 0 0, h)) (k2 : ∀ h, KK 20 [.str t] h = some (RT [] 9 p, h)) (k3 : ∀ h, KK 20 [.str (s ++ 10 :: t)] h = some (RT [] 9 (s.length + 1 + p), h)) :
    m4 KK (.str s) (.str t) [] = some (.ret (.bool true), []) := by
  have hs0 : ¬ 20000 < s.length := by omega
  have hs' : ¬ (20000 : Int) < s.length := by omega
  have ht0 : ¬ 20000 < t.length := by omega
  have ht' : ¬ (20000 : Int) < t.length := by omega
  have b1 : s.length ≤ 4611686018427387903 := by omega
  have b2 : s.length + (t.length + 1) ≤ 4611686018427387904 := by omega
  have b3 : s.length + 1 + t.length ≤ 4611686018427387904 := by omega
  have w1 : IntKind.wrap .i64 ((s.length : Int) + 1) = (s.length : Int) + 1 := by rw [wrap64] <;> omega
  have w2 : IntKind.wrap .i64 ((s.length : Int) + 1 + p) = ((s.length + 1 + p : Nat) : Int) := by rw [wrap64] <;> omega
  simp only [RT, List.map_nil] at k1 k2 k3
  generalize hx : ((s.length + 1 + p : Nat) : Int) = x at *
  generalize l.map Token.cells = L at *
  simp -implicitDefEqProofs [m4, hs0, hs', ht0, ht', c23, k1, k2, k3, b1, b2, b3, anew, tokCells, putCells, aeq_bad, w1, w2, abuild, finR_zero]

theorem m4_good (hs : s.length ≤ 20000) (ht : t.length ≤ 20000) (A B C : List Token) (L : Nat) (k1 : ∀ h, KK 20 [.str s] h = some (RT A 0 0, h)) (k2 : ∀ h, KK 20 [.str t] h = some (RT B 0 0, h)) (k3 : ∀ h, KK 20 [.str (s ++ 10 :: t)] h = some (RT C 0 0, h))
    (hA : A.length = L + 1) (hL : L ≤ 65537) (hB : B.length ≤ 65537) (hC : C.length = L + B.length)
    (hlp : lpW (m4_l0 KK 3) ([.str s, .bool false, .slice (A.map Token.cells) .no, .slice (B.map Token.cells) .no, .slice (C.map Token.cells) .no, .int .i64 0], H3 0 0 0 0 0 0) =
      some (.exit 0, [.str s, .bool false, .slice (A.map Token.cells) .no, .slice (B.map Token.cells) .no, .slice (C.map Token.cells) .no, .int .i64 (C.length : Nat)], H3 0 0 0 0 0 0)) :
    m4 KK (.str s) (.str t) [] = some (.ret (.bool true), []) := by
  have hs0 : ¬ 20000 < s.length := by omega
  have hs' : ¬ (20000 : Int) < s.length := by omega
  have ht0 : ¬ 20000 < t.length := by omega
  have ht' : ¬ (20000 : Int) < t.length := by omega
  have b1 : s.length ≤ 4611686018427387903 := by omega
  have b2 : s.length + (t.length + 1) ≤ 4611686018427387904 := by omega
  have b3 : s.length + 1 + t.length ≤ 4611686018427387904 := by omega
  have w1 : IntKind.wrap .i64 (L : Int) = (L : Int) := by rw [wrap64] <;> omega
  have w2 : IntKind.wrap .i64 ((L : Int) + B.length) = (L : Int) + B.length := by rw [wrap64] <;> omega
  have n0 : ¬ (L : Int) + 1 = 0 := by omega
  have lA : (A.map Token.cells).length = L + 1 := by simpa using hA
  have lB : (B.map Token.cells).length = B.length := by simp
  have lC : (C.map Token.cells).length = L + B.length := by simpa using hC
  simp only [RT] at k1 k2 k3
  simp only [H3] at hlp
  generalize A.map Token.cells = A' at *
  generalize B.map Token.cells = B' at *
  generalize C.map Token.cells = C' at *
  simp only [Int.ofNat_eq_natCast, Int.cast_ofNat_Int] at k1 k2 k3 hlp
  simp -implicitDefEqProofs [m4, hs0, hs', ht0, ht', c23, k1, k2, k3, b1, b2, b3, anew, tokCells, putCells, lA, lB, lC, w1, w2, n0, hlp, finR_zero]

theorem lexJoins : evW Tryd.prog ann 4 [.str s, .str t] [] = some (.ret (.bool true), []) := by
  refine evW_by (m4_eq _ _ _ _) ?_
  by_cases hl : 20000 < s.length ∨ 20000 < t.length
  · exact m4_long s t hl
  · have hs : s.length ≤ 20000 := by omega
    have ht : t.length ≤ 20000 := by omega
    have k1 := c20 s
    have k2 := c20 t
    have k3 := c20 (s ++ 10 :: t)
    have hp := lexS_pos t
    have hb := lexS_bad t
    have hl2 := lexS_len t
    have hl1 := lexS_len s
    rcases lexS_join s t hs ht with ⟨p, e1, e3⟩ | ⟨l, e1, ⟨p, e2, e3⟩ | ⟨r, e2, e3⟩⟩
    · rw [e1] at k1
      rw [e3] at k3
      exact m4_bad1 s t hs ht p _ _ _ k1 k2 k3
    · rw [e1] at k1
      rw [e2] at k2 hb
      rw [e3] at k3
      exact m4_bad2 s t hs ht p hb _ k1 k2 k3
    · rw [e1] at k1 hl1
      rw [e2] at k2 hp hl2
      rw [e3] at k3
      have hA : (l ++ [(⟨0, s.length, 0, []⟩ : Token)]).length = l.length + 1 := by simp
      have hC : (l ++ r.map (shiftT (s.length + 1))).length = l.length + r.length := by simp
      have hL : l.length ≤ 65537 := by simp only [hA] at hl1; omega
      refine m4_good s t hs ht _ r _ l.length k1 k2 k3 hA hL hl2 hC ?_
      exact m4_loop s _ r _ l.length 0 0 0 0 0 0 hs hA hL hl2 hC
        (fun i hi => by rw [List.getElem?_append_left hi, List.getElem?_append_left hi]) (fun j x hx => by rw [List.getElem?_append_right (by omega)]; simp [hx]) (fun x hx => by have := hp x hx; omega)
end
end Go.Proofs.YtkeoalhglkfbkaaDoor

/-
  LexAgain answers true, by the evaluator: the whole function. No conditions.
-/
import Derived.Test.YtkeoalhglkfbkaaDoorU
set_option linter.unusedVariables false
set_option linter.unusedSimpArgs false
namespace Go.Proofs.YtkeoalhglkfbkaaDoor
open Go Hk

section
variable (s : List UInt8)

theorem m5_bad (e p : Nat) (he : e ≠ 0) (k1 : ∀ h, KK 20 [.str s] h = some (RT [] e p, h)) : m5 KK (.str s) [] = some (.ret (.bool true), []) := by
  have he' : ¬ (e : Int) = 0 := by omega
  simp only [RT, List.map_nil] at k1
  simp -implicitDefEqProofs [m5, k1, he, he', c23, anew, tokCells, putCells, finR_zero]

theorem m5_ret (A : List Token) (k1 : ∀ h, KK 20 [.str s] h = some (RT A 0 0, h)) (T : List UInt8) (P : List Nat) (n : Nat) (i : Int)
    (hlp : lpW (m5_l0 KK 2) (S0 s A [] [] 0 0) = some (.ret, [.str s, .bool true, .slice (A.map Token.cells) .no, .str T, .slice (P.map nc) (.own 1), .int .i64 i], HM n 1)) : m5 KK (.str s) [] = some (.ret (.bool true), []) := by
  simp only [RT] at k1
  simp only [S0, HM, List.map_nil, List.length_nil] at hlp
  generalize A.map Token.cells = A' at *
  generalize P.map nc = P' at *
  simp only [Int.ofNat_eq_natCast, Int.cast_ofNat_Int] at k1 hlp
  simp -implicitDefEqProofs [m5, k1, hlp, c23, anew, tokCells, putCells, finR_zero]

theorem m5_good (A B : List Token) (T : List UInt8) (P : List Nat) (j : Nat) (k1 : ∀ h, KK 20 [.str s] h = some (RT A 0 0, h)) (k2 : ∀ h, KK 20 [.str T] h = some (RT B 0 0, h)) (hB : B.length = A.length)
    (hlp : lpW (m5_l0 KK 2) (S0 s A [] [] 0 0) = some (.exit 0, S0 s A T P 1 j))
    (hl2 : lpW (m5_l1 KK 3) ([.bool false, .slice (A.map Token.cells) .no, .slice (P.map nc) (.own 1), .slice (B.map Token.cells) .no, .int .i64 (0 : Nat)], H4 P.length 1) =
      some (.exit 2, [.bool false, .slice (A.map Token.cells) .no, .slice (P.map nc) (.own 1), .slice (B.map Token.cells) .no, .int .i64 (A.length : Nat)], H4 P.length 1)) : m5 KK (.str s) [] = some (.ret (.bool true), []) := by
  simp only [RT] at k1 k2
  simp only [S0, HM, List.map_nil, List.length_nil] at hlp
  simp only [H4] at hl2
  have lA : (A.map Token.cells).length = A.length := by simp
  have lB : (B.map Token.cells).length = A.length := by simpa using hB
  generalize A.map Token.cells = A' at *
  generalize B.map Token.cells = B' at *
  generalize P.map nc = P' at *
  generalize P.length = pl at *
  simp only [Int.ofNat_eq_natCast, Int.cast_ofNat_Int] at k1 k2 hlp hl2
  simp -implicitDefEqProofs [m5, k1, k2, hlp, hl2, lA, lB, c23, anew, tokCells, putCells, finR_zero]

theorem lexS_relex (l : List Token) (hg : ∀ x ∈ l, Good x) (hw : (writeAll l).length ≤ 65536) : lexS (writeAll l) = (placed 0 l ++ [⟨0, (writeAll l).length, 0, []⟩], 0, 0) := by
  unfold lexS
  rw [if_neg (by omega)]
  simpa using relex l hg [] []

/-- THE LAW. -/
theorem lexAgain : evW Tryd.prog ann 5 [.str s] [] = some (.ret (.bool true), []) := by
  refine evW_by (m5_eq _ _ _) ?_
  have k1 := c20 s
  by_cases hs : 65536 < s.length
  · have e : lexS s = ([], 5, 0) := by unfold lexS; rw [if_pos hs]
    rw [e] at k1
    exact m5_bad s 5 0 (by decide) k1
  · have e : lexS s = lexFrom s 0 [] := by unfold lexS; rw [if_neg hs]
    have hlen := lexS_len s
    rcases lexFrom_facts s 0 [] with ⟨p, h⟩ | ⟨l, h, h1, h2⟩
    · rw [e, h] at k1
      exact m5_bad s 9 p (by decide) k1
    · rw [e, h] at k1 hlen
      simp only [List.nil_append] at k1 hlen
      have hll : l.length ≤ 65536 := by simp at hlen; omega
      have hloop := m5_loop s l (by omega) hll (fun x hx => (h1 x hx).2) h2 l [] rfl (by simp [writeAll]) 0 (.inr ⟨rfl, rfl⟩)
      rcases hloop with ⟨T, P, n, i, hr⟩ | ⟨hw, hx⟩
      · exact m5_ret s (l ++ [endT s]) k1 T P n i hr
      · have k2 := c20 (writeAll l)
        rw [lexS_relex l (fun x hx => (h1 x hx).2.2.1) hw] at k2
        have hBl : (placed 0 l ++ [(⟨0, (writeAll l).length, 0, []⟩ : Token)]).length = (l ++ [endT s]).length := by simp [placed_len]
        refine m5_good s (l ++ [endT s]) _ (writeAll l) _ _ k1 k2 hBl hx (m5_second _ _ _ _ _ (by simp; omega) hBl ?_)
        intro i x hi
        by_cases hlt : i < l.length
        · rw [List.getElem?_append_left hlt] at hi
          obtain ⟨q, q1, q2⟩ := placed_get l 0 i x hi
          exact ⟨q, by rw [List.getElem?_append_left (by rw [ats_len]; exact hlt)]; exact q1, by rw [List.getElem?_append_left (by rw [placed_len]; exact hlt)]; exact q2⟩
        · have hil : i = l.length := by
            have := (List.getElem?_eq_some_iff.1 hi).1
            simp at this; omega
          subst hil
          obtain rfl : endT s = x := by simpa using hi
          refine ⟨(writeAll l).length, ?_, ?_⟩
          · rw [List.getElem?_append_right (by rw [ats_len]; exact Nat.le_refl _), ats_len]; simp
          · rw [List.getElem?_append_right (by rw [placed_len]; exact Nat.le_refl _), placed_len]; simp [moved, endT]
end
end Go.Proofs.YtkeoalhglkfbkaaDoor

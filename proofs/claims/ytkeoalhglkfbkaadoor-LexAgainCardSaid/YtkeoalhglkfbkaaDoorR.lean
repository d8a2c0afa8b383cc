/-
  A token written: the document's function, by the evaluator. No conditions.
-/
import Derived.Test.YtkeoalhglkfbkaaDoorQ
set_option linter.unusedVariables false
set_option linter.unusedSimpArgs false
namespace Go.Proofs.YtkeoalhglkfbkaaDoor
open Go Hk

theorem digs_step {n : Nat} {acc : List UInt8} (h : 0 < n) : digs n acc = digs (n / 10) (UInt8.ofNat (48 + n % 10) :: acc) := by
  rw [digs.eq_1 n, if_neg (by omega)]
theorem digs_len (n : Nat) : ∀ acc, n ≤ 4294967295 → (digs n acc).length ≤ acc.length + n := by
  induction n using Nat.strongRecOn with
  | _ n ih =>
    intro acc hn
    rw [digs]
    by_cases h : n = 0
    · rw [if_pos h]; omega
    · rw [if_neg h]
      have := ih (n / 10) (by omega) (UInt8.ofNat (48 + n % 10) :: acc) (by omega)
      simp only [List.length_cons] at this
      omega

theorem rem10 {n : Int} : abin .rem (.int .i64 n) (.int .i64 10) = some (.int .i64 (n.tmod 10)) := (rfl)
theorem quo10 {n : Int} : abin .quo (.int .i64 n) (.int .i64 10) = some (.int .i64 (IntKind.wrap .i64 (n.tdiv 10))) := (rfl)
theorem build1 {x : Int} {h : Heap} : abuildSlice 1 1 [.int .u8 0] [(0, .int .u8 x)] h = some (.slice [[.int .u8 x]] (.own h.length), h ++ [.front 1 1]) := (rfl)
theorem bytes1 {m : Int} {t : Tok} : abytesStr (.slice [[.int .u8 m]] t) = some (.str [UInt8.ofNat m.toNat]) := (rfl)
theorem trunc_C {k p q : Int} {t : List UInt8} {bs : Heap} : trunc 1 (.cells [.int .i64 k, .int .i64 p, .int .i64 q, .str t] :: bs) = some [.cells [.int .i64 k, .int .i64 p, .int .i64 q, .str t]] := by simp [trunc]

theorem m24_loop (k p q : Int) (t : List UInt8) (n : Nat) (hn : n ≤ 4294967295) (acc : List UInt8) (ha : acc.length + n ≤ 8589934590) :
    lpW (m24_l0 KK 1) ([.str [], .str acc, .int .i64 (n : Nat)], [.cells [.int .i64 k, .int .i64 p, .int .i64 q, .str t]]) =
      some (.exit 0, [.str [], .str (digs n acc), .int .i64 0], [.cells [.int .i64 k, .int .i64 p, .int .i64 q, .str t]]) := by
  induction n using Nat.strongRecOn generalizing acc with
  | _ n ih =>
    rw [lpW_step]
    by_cases h : 0 < n
    · have h' : (0 : Int) < n := by omega
      have e1 : Int.tmod (n : Int) 10 = ((n % 10 : Nat) : Int) := by rw [Int.tmod_eq_emod_of_nonneg (by omega)]; omega
      have e2 : Int.tdiv (n : Int) 10 = ((n / 10 : Nat) : Int) := by rw [Int.tdiv_eq_ediv_of_nonneg (by omega)]; omega
      have w1 : IntKind.wrap .i64 (48 + ((n % 10 : Nat) : Int)) = ((48 + n % 10 : Nat) : Int) := by rw [wrap64] <;> omega
      have w2 : IntKind.wrap .u8 ((48 + n % 10 : Nat) : Int) = ((48 + n % 10 : Nat) : Int) := wrap8 (by omega) (by omega)
      have e3 : (48 + ((n % 10 : Nat) : Int)).toNat = 48 + n % 10 := by omega
      have w0 : IntKind.wrap .i64 ((n / 10 : Nat) : Int) = ((n / 10 : Nat) : Int) := by rw [wrap64] <;> omega
      have b1 : acc.length + 1 ≤ 4611686018427387904 := by omega
      have b2 : 1 + acc.length ≤ 4611686018427387904 := by omega
      have step : m24_l0 KK 1 ([.str [], .str acc, .int .i64 (n : Nat)], [.cells [.int .i64 k, .int .i64 p, .int .i64 q, .str t]]) =
          some (.normal, [.str [], .str (UInt8.ofNat (48 + n % 10) :: acc), .int .i64 (n / 10 : Nat)], [.cells [.int .i64 k, .int .i64 p, .int .i64 q, .str t]]) := by
        simp only [Int.natCast_add, Int.cast_ofNat_Int] at w1 w2
        generalize hx : n % 10 = x at *
        generalize hy : n / 10 = y at *
        simp [m24_l0, h, h', rem10, quo10, build1, bytes1, e1, e2, e3, w0, w1, w2, b1, b2, trunc_C, endR]
      rw [step]
      simp only [Option.bind_some, thenDo_normal]
      rw [digs_step h]
      exact ih (n / 10) (by omega) (by omega) _ (by simp only [List.length_cons]; omega)
    · obtain rfl : n = 0 := by omega
      rw [digs]
      simp [m24_l0, trunc_C, endR]

theorem c24 (x : Token) (hn : x.num ≤ 4294967295) (h : Heap) : KK 24 [.agg x.cells] h = some (.ret (.str (written x)), h) := by
  refine callP_pure rfl rfl (evW_by (m24_eq _ _ _) ?_)
  obtain ⟨k, p, q, t⟩ := x
  simp only [] at hn
  by_cases hk : k = 2
  · subst hk
    by_cases hq : q = 0
    · subst hq
      simp -implicitDefEqProofs [m24, Token.cells, anew, tokCells, putCells, written, decS, finR_zero]
    · have hq' : ¬ (q : Int) ≤ 0 := by omega
      have hlp := m24_loop ((2 : Nat) : Int) (p : Nat) (q : Nat) t q hn [] (by simp; omega)
      simp only [Int.ofNat_eq_natCast, Int.cast_ofNat_Int] at hlp
      simp -implicitDefEqProofs [m24, Token.cells, anew, tokCells, putCells, hq, hq', hlp, written, decS, finR_zero]
  · have hk' : ¬ (k : Int) = 2 := by omega
    simp -implicitDefEqProofs [m24, Token.cells, anew, tokCells, putCells, hk, hk', written, finR_zero]
end Go.Proofs.YtkeoalhglkfbkaaDoor

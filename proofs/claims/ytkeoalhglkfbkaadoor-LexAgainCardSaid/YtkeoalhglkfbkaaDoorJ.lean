/-
  The document's lexer is the program's. No conditions.
-/
import Derived.Test.YtkeoalhglkfbkaaDoorI
set_option linter.unusedVariables false
set_option linter.unusedSimpArgs false
namespace Go.Proofs.YtkeoalhglkfbkaaDoor
open Go Hk

theorem skipTo_not_blank (s : List UInt8) (a : Nat) (h : skipTo s a < s.length) : isBlank s[skipTo s a] = false := by
  fun_induction skipTo s a with
  | case1 a h1 h2 ih => exact ih h
  | case2 a h1 h2 h3 ih => exact ih h
  | case3 a h1 h2 h3 => simpa using h2
  | case4 a h1 => exact absurd h h1

theorem not_blank_32 {b : UInt8} (h : isBlank b = false) : b ≠ 32 := by
  intro e; subst e; simp [isBlank] at h

def HR (e p : Int) (n sz : Nat) : Heap := [.front 0 0, .cells [.int .i64 e, .int .i64 p], .front n sz]
theorem trunc_HR {e p : Int} {n sz : Nat} {bs : Heap} : trunc 3 (.front 0 0 :: .cells [.int .i64 e, .int .i64 p] :: .front n sz :: bs) = some [.front 0 0, .cells [.int .i64 e, .int .i64 p], .front n sz] := by simp [trunc]

theorem m21_loop (s : List UInt8) (hs : s.length ≤ 65536) (a0 : Nat) (ha : a0 ≤ s.length) (out : List Token) (ho : out.length ≤ a0) :
    (∃ (l : List Token) (n sz : Nat), n = l.length ∧ l.length ≤ 65536 ∧ (sz = 4 ∨ l = [] ∧ sz = 0) ∧ lexFrom s a0 out = (l ++ [⟨0, s.length, 0, []⟩], 0, 0) ∧
      lpW (m21_l0 KK 3) ([.str s, .slice [] (.own 0), .ptr 1 0, .slice (out.map Token.cells) (.own 2), .int .i64 (skipTo s a0 : Nat)], HR 0 0 out.length (frSz (out.map Token.cells))) =
        some (.exit 0, [.str s, .slice [] (.own 0), .ptr 1 0, .slice (l.map Token.cells) (.own 2), .int .i64 (s.length : Nat)], HR 0 0 n sz)) ∨
    (∃ (p : Nat) (v : AVal) (at' : Int) (n sz : Nat), lexFrom s a0 out = ([], 9, p) ∧
      lpW (m21_l0 KK 3) ([.str s, .slice [] (.own 0), .ptr 1 0, .slice (out.map Token.cells) (.own 2), .int .i64 (skipTo s a0 : Nat)], HR 0 0 out.length (frSz (out.map Token.cells))) =
        some (.ret, [.str s, .slice [] .no, .ptr 1 0, v, .int .i64 at'], HR 9 p n sz)) := by
  induction hn : s.length - a0 using Nat.strongRecOn generalizing a0 out with
  | _ n ih =>
    rw [lpW_step]
    have hge := skipTo_ge s a0
    have hle := skipTo_le s a0 ha
    rw [lexFrom]
    by_cases h : skipTo s a0 < s.length
    · have h' : (skipTo s a0 : Int) < s.length := by omega
      obtain ⟨k, p, q, t, m, hc, hm⟩ := c57 s hs (skipTo s a0) h (not_blank_32 (skipTo_not_blank s a0 h))
      simp only [h, dite_true]
      cases hone : oneS (s.drop (skipTo s a0)) (skipTo s a0) with
      | none =>
        rw [hone] at hm
        simp only [] at hm
        subst hm
        right
        refine ⟨skipTo s a0, .slice (out.map Token.cells) (.own 2), (skipTo s a0 : Nat), out.length, frSz (out.map Token.cells), rfl, ?_⟩
        simp only [Int.ofNat_eq_natCast, Int.cast_ofNat_Int] at hc
        simp [m21_l0, HR, h', hc, anew, tokCells, abuild, putCells, endR, trunc_HR, san1_ptr]
      | some tn =>
        obtain ⟨u, m'⟩ := tn
        rw [hone] at hm
        obtain ⟨hcell, rfl⟩ := hm
        obtain ⟨hk1, hk2⟩ := oneS_pos hone
        simp only [List.length_drop] at hk2
        have hmax : max 1 m = m := by omega
        have w : IntKind.wrap .i64 ((skipTo s a0 : Int) + m) = (skipTo s a0 : Int) + m := by rw [wrap64] <;> omega
        have h56 := c56 s hs (skipTo s a0 + m) (by omega)
        have hm0 : ¬ ((m : Int) = 0) := by omega
        have hm1 : ¬ m = 0 := by omega
        rw [hcell] at hc
        have step : m21_l0 KK 3 ([.str s, .slice [] (.own 0), .ptr 1 0, .slice (out.map Token.cells) (.own 2), .int .i64 (skipTo s a0 : Nat)], HR 0 0 out.length (frSz (out.map Token.cells))) =
            some (.normal, [.str s, .slice [] (.own 0), .ptr 1 0, .slice ((out ++ [u]).map Token.cells) (.own 2), .int .i64 (skipTo s (skipTo s a0 + m) : Nat)], HR 0 0 (out ++ [u]).length (frSz ((out ++ [u]).map Token.cells))) := by
          have h1 : (out.length + 1) * 40 ≤ 140737488355328 := by omega
          have h2 : out.length + 1 ≤ 140737488355328 := by omega
          have h3 : frSz (out.map Token.cells) = 4 ∨ out.length = 0 ∧ frSz (out.map Token.cells) = 0 := by cases out <;> simp [frSz]
          have hap : aappend 4 40 [.front 0 0, .cells [.int .i64 0, .int .i64 0], .front out.length (frSz (out.map Token.cells)), .cells u.cells, .front 1 4] (.slice (out.map Token.cells) (.own 2)) (.slice [u.cells] (.own 4)) =
              some (.slice (out.map Token.cells ++ [u.cells]) (.own 2), [.front 0 0, .cells [.int .i64 0, .int .i64 0], .front (out.length + 1) 4, .cells u.cells, .front 1 4]) := by
            have hall : [u.cells].all (fun r => r.length == 4) = true := rfl
            have hget : ([.front 0 0, .cells [.int .i64 0, .int .i64 0], .front out.length (frSz (out.map Token.cells)), .cells u.cells, .front 1 4] : Heap)[2]? = some (.front out.length (frSz (out.map Token.cells))) := rfl
            simp only [aappend, arowsS, hall, if_true, hget, List.length_map, List.length_cons, List.length_nil, Nat.zero_add, h1, h2, h3, and_self]
            rfl
          simp only [Int.natCast_add] at h56
          simp only [Token.cells] at hap
          have hfr := frSz_app (out.map Token.cells) u.cells
          simp only [Token.cells] at hfr
          simp [m21_l0, HR, h', hc, Token.cells, anew, tokCells, abuild, putCells, hm0, hm1, abuildSlice, abuildRow, pureRow, AVal.pure1, rowsOf, hap, w, h56, endR, trunc_HR, san1_ptr, hfr]
        rw [step]
        simp only [Option.bind_some, thenDo_normal, hmax]
        exact ih (s.length - (skipTo s a0 + m)) (by omega) (skipTo s a0 + m) (by omega) (out ++ [u]) (by simp; omega) rfl
    · have heq : skipTo s a0 = s.length := by omega
      left
      simp only [h, dite_false]
      refine ⟨out, out.length, frSz (out.map Token.cells), rfl, by omega, by cases out <;> simp [frSz], rfl, ?_⟩
      rw [heq]
      simp [m21_l0, HR, endR, trunc_HR, san1_ptr]

/-- THE DOCUMENT's LEXER. -/
theorem c21 (s : List UInt8) (h : Heap) : KK 21 [.str s] h = some (.ret (.tuple [.slice ((lexS s).1.map Token.cells) .no, .agg [.int .i64 ((lexS s).2.1 : Nat), .int .i64 ((lexS s).2.2 : Nat)]]), h) := by
  refine callP_pure rfl rfl (evW_by (m21_eq _ _ _) ?_)
  by_cases hs : 65536 < s.length
  · have hs' : (65536 : Int) < s.length := by omega
    simp [m21, anew, tokCells, abuild, putCells, hs', lexS, hs, finR_zero]
  · have hs' : ¬ (65536 : Int) < s.length := by omega
    have hlex : lexS s = lexFrom s 0 [] := by simp [lexS, hs]
    have h56 := c56 s (by omega) 0 (Nat.zero_le _)
    simp only [Int.ofNat_eq_natCast, Int.cast_ofNat_Int] at h56
    rw [hlex]
    rcases m21_loop s (by omega) 0 (Nat.zero_le _) [] (Nat.zero_le _) with ⟨l, n, sz, hn, hl, hsz, hlx, hlp⟩ | ⟨p, v, at', n, sz, hlx, hlp⟩
    · rw [hlx]
      subst hn
      simp only [HR, List.map_nil, List.length_nil, frSz] at hlp
      have h1 : (l.length + 1) * 40 ≤ 140737488355328 := by omega
      have h2 : l.length + 1 ≤ 140737488355328 := by omega
      have h3 : sz = 4 ∨ l.length = 0 ∧ sz = 0 := by
        rcases hsz with h | ⟨h, h'⟩
        · exact .inl h
        · exact .inr ⟨by simp [h], h'⟩
      have hap : aappend 4 40 [.front 0 0, .cells [.int .i64 0, .int .i64 0], .front l.length sz, .front 1 4] (.slice (l.map Token.cells) (.own 2)) (.slice [[.int .i64 0, .int .i64 (s.length : Nat), .int .i64 0, .str []]] (.own 3)) =
          some (.slice (l.map Token.cells ++ [[.int .i64 0, .int .i64 (s.length : Nat), .int .i64 0, .str []]]) (.own 2), [.front 0 0, .cells [.int .i64 0, .int .i64 0], .front (l.length + 1) 4, .front 1 4]) := by
        have hget : ([.front 0 0, .cells [.int .i64 0, .int .i64 0], .front l.length sz, .front 1 4] : Heap)[2]? = some (.front l.length sz) := rfl
        have hall : ([[.int .i64 0, .int .i64 (s.length : Nat), .int .i64 0, .str []]] : List (List AVal)).all (fun r => r.length == 4) = true := rfl
        simp only [aappend, arowsS, hall, if_true, hget, List.length_map, List.length_cons, List.length_nil, Nat.zero_add, h1, h2, h3, and_self]
        rfl
      simp [m21, anew, tokCells, abuild, putCells, hs', h56, hlp, abuildSlice, abuildRow, pureRow, AVal.pure1, rowsOf, hap, finR_zero, Token.cells]
    · rw [hlx]
      simp only [HR, List.map_nil, List.length_nil, frSz] at hlp
      simp [m21, anew, tokCells, abuild, putCells, hs', h56, hlp, finR_zero]

end Go.Proofs.YtkeoalhglkfbkaaDoor

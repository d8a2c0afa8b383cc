/-
  LexJoins answers true, by the evaluator. No conditions.
-/
import Derived.Test.YtkeoalhglkfbkaaDoorN
set_option linter.unusedVariables false
set_option linter.unusedSimpArgs false
namespace Go.Proofs.YtkeoalhglkfbkaaDoor
open Go Hk

theorem oneS_at {l : List UInt8} {a n : Nat} {t : Token} (h : oneS l a = some (t, n)) : t.pos = a := by
  unfold oneS at h
  cases l with
  | nil => cases h
  | cons b r =>
    simp only [] at h
    split at h
    · split at h
      · cases h
      · simp only [Option.some.injEq, Prod.mk.injEq] at h; rw [← h.1]
    · split at h
      · split at h
        · cases h
        · simp only [Option.some.injEq, Prod.mk.injEq] at h; rw [← h.1]
      · split at h
        · cases h
        · simp only [Option.some.injEq, Prod.mk.injEq] at h; rw [← h.1]

theorem lexFrom_pos (s : List UInt8) (a : Nat) (out : List Token) (ho : ∀ x ∈ out, x.pos ≤ s.length) : ∀ x ∈ (lexFrom s a out).1, x.pos ≤ s.length := by
  fun_induction lexFrom s a out with
  | case1 => simp
  | case2 a out h t n h3 ih =>
    apply ih
    intro x hx
    rcases List.mem_append.1 hx with hx | hx
    · exact ho x hx
    · obtain rfl : x = t := by simpa using hx
      have := oneS_at h3
      omega
  | case3 a out h =>
    intro x hx
    rcases List.mem_append.1 hx with hx | hx
    · exact ho x hx
    · obtain rfl : x = ⟨0, s.length, 0, []⟩ := by simpa using hx
      exact Nat.le_refl _
theorem lexS_pos (s : List UInt8) : ∀ x ∈ (lexS s).1, x.pos ≤ s.length := by
  unfold lexS
  split
  · simp
  · exact lexFrom_pos s 0 [] (by simp)

def H3 (e p f q g o : Int) : Heap := [.cells [.int .i64 e, .int .i64 p], .cells [.int .i64 f, .int .i64 q], .cells [.int .i64 g, .int .i64 o]]
theorem trunc_H3 {e p f q g o : Int} {bs : Heap} : trunc 3 (.cells [.int .i64 e, .int .i64 p] :: .cells [.int .i64 f, .int .i64 q] :: .cells [.int .i64 g, .int .i64 o] :: bs) =
    some [.cells [.int .i64 e, .int .i64 p], .cells [.int .i64 f, .int .i64 q], .cells [.int .i64 g, .int .i64 o]] := by simp [trunc]

section
variable (s : List UInt8) (A B C : List Token) (L : Nat) (e p f q g o : Int)

theorem m4_loop (hs : s.length ≤ 20000) (hA : A.length = L + 1) (hL : L ≤ 65537) (hB : B.length ≤ 65537) (hC : C.length = L + B.length) (h1 : ∀ i, i < L → C[i]? = A[i]?)
    (h2 : ∀ j x, B[j]? = some x → C[L + j]? = some (shiftT (s.length + 1) x)) (hp : ∀ x ∈ B, x.pos ≤ 20000) :
    lpW (m4_l0 KK 3) ([.str s, .bool false, .slice (A.map Token.cells) .no, .slice (B.map Token.cells) .no, .slice (C.map Token.cells) .no, .int .i64 (0 : Nat)], H3 e p f q g o) =
      some (.exit 0, [.str s, .bool false, .slice (A.map Token.cells) .no, .slice (B.map Token.cells) .no, .slice (C.map Token.cells) .no, .int .i64 (C.length : Nat)], H3 e p f q g o) := by
  refine lpW_measure (σ := Nat) (fun i => ([.str s, .bool false, .slice (A.map Token.cells) .no, .slice (B.map Token.cells) .no, .slice (C.map Token.cells) .no, .int .i64 i], H3 e p f q g o)) (fun i => i ≤ C.length) (fun i => C.length - i) (fun _ => _) ?_ 0 (Nat.zero_le _)
  intro i hi
  by_cases h : i < C.length
  · left
    refine ⟨i + 1, ?_, by omega, by omega, rfl⟩
    have w : IntKind.wrap .i64 ((i : Int) + 1) = ((i + 1 : Nat) : Int) := by rw [wrap64] <;> omega
    have w0 : IntKind.wrap .i64 (L : Int) = (L : Int) := by rw [wrap64] <;> omega
    have hx : C[i]? = some C[i] := List.getElem?_eq_getElem h
    obtain ⟨x, hxx⟩ : ∃ x, C[i] = x := ⟨_, rfl⟩
    rw [hxx] at hx
    by_cases hlt : i < L
    · have ha := h1 i hlt
      rw [hx] at ha
      have ha' := ha.symm
      have hge : ¬ (L : Int) ≤ i := by omega
      have hlt' : (i : Int) < L := by omega
      have hlc : (i : Int) < C.length := by omega
      simp [m4_l0, H3, hA, w0, h, hlc, hlt, hlt', hge, hx, hxx, ha', tok_len, tok_take, aeq_token, w, trunc_H3, endR]
    · have hj : i - L < B.length := by omega
      have hy : B[i - L]? = some B[i - L] := List.getElem?_eq_getElem hj
      have hmem := hp _ (List.getElem_mem hj)
      have hxy := h2 _ _ hy
      rw [show L + (i - L) = i by omega, hx] at hxy
      generalize B[i - L] = y at *
      obtain rfl := Option.some.inj hxy
      have hge : (L : Int) ≤ i := by omega
      have hlt' : ¬ (i : Int) < L := by omega
      have hlc : (i : Int) < C.length := by omega
      have w1 : IntKind.wrap .i64 ((i : Int) - ((L : Int) + 1)) = (i : Int) - (L + 1) := by rw [wrap64] <;> omega
      have w2 : IntKind.wrap .i64 ((i : Int) - ((L : Int) + 1) + 1) = ((i - L : Nat) : Int) := by rw [wrap64] <;> omega
      have w3 : IntKind.wrap .i64 ((y.pos : Int) + s.length) = (y.pos : Int) + s.length := by rw [wrap64] <;> omega
      have w4 : IntKind.wrap .i64 ((y.pos : Int) + s.length + 1) = ((y.pos + (s.length + 1) : Nat) : Int) := by rw [wrap64] <;> omega
      have hcells : aeqAgg [.i, .i, .i, .s] (.agg (shiftT (s.length + 1) y).cells) (.agg [.int .i64 (y.kind : Int), .int .i64 ((y.pos + (s.length + 1) : Nat) : Int), .int .i64 (y.num : Int), .str y.text]) = some true := by
        have := aeq_token (shiftT (s.length + 1) y) (shiftT (s.length + 1) y)
        rw [decide_eq_true rfl] at this
        exact this
      have hyc : y.cells = [.int .i64 (y.kind : Int), .int .i64 (y.pos : Int), .int .i64 (y.num : Int), .str y.text] := rfl
      generalize hsc : (shiftT (s.length + 1) y).cells = sc at hcells
      have hscl : sc.length = 4 := by rw [← hsc]; rfl
      have hsct : sc.take 4 = sc := by rw [← hsc]; rfl
      simp only [Int.natCast_add, Int.cast_ofNat_Int] at hcells
      simp [m4_l0, H3, hA, w0, h, hlc, hlt, hlt', hge, hx, hxx, hy, w1, w2, hyc, anew, tokCells, putCells, w3, w4, hsc, hscl, hsct, hcells, w, trunc_H3, endR]
  · right
    obtain rfl : i = C.length := by omega
    refine ⟨?_, by simp⟩
    simp [m4_l0, H3, trunc_H3, endR]
end
end Go.Proofs.YtkeoalhglkfbkaaDoor

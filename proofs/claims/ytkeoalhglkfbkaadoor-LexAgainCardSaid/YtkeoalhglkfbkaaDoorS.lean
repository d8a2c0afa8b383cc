/-
  LexAgain: a round of its first loop, by the evaluator. No conditions.
-/
import Derived.Test.YtkeoalhglkfbkaaDoorR
set_option linter.unusedVariables false
set_option linter.unusedSimpArgs false
namespace Go.Proofs.YtkeoalhglkfbkaaDoor
open Go Hk

def nc (p : Nat) : List AVal := [.int .i64 (p : Int)]
def HM (n sz : Nat) : Heap := [.cells [.int .i64 0, .int .i64 0], .front n sz]
theorem trunc_HM {n sz : Nat} {bs : Heap} : trunc 2 (.cells [.int .i64 0, .int .i64 0] :: .front n sz :: bs) = some [.cells [.int .i64 0, .int .i64 0], .front n sz] := by simp [trunc]
theorem build8 {x : Int} {h : Heap} : abuildSlice 1 1 [.int .i64 0] [(0, .int .i64 x)] h = some (.slice [[.int .i64 x]] (.own h.length), h ++ [.front 1 1]) := (rfl)

theorem app8 (ps : List Nat) (sz : Nat) (hsz : sz = 1 ∨ ps.length = 0 ∧ sz = 0) (hp : ps.length ≤ 65537) (c : List AVal) (p : Nat) :
    aappend 1 8 [.cells [.int .i64 0, .int .i64 0], .front ps.length sz, .cells c, .front 1 1] (.slice (ps.map nc) (.own 1)) (.slice [[.int .i64 (p : Int)]] (.own 3)) =
      some (.slice ((ps ++ [p]).map nc) (.own 1), [.cells [.int .i64 0, .int .i64 0], .front (ps.length + 1) 1, .cells c, .front 1 1]) := by
  have hall : ([[.int .i64 (p : Int)]] : List (List AVal)).all (fun r => r.length == 1) = true := rfl
  have hget : ([.cells [.int .i64 0, .int .i64 0], .front ps.length sz, .cells c, .front 1 1] : Heap)[1]? = some (.front ps.length sz) := rfl
  have h1 : (ps.length + 1) * 8 ≤ 140737488355328 := by omega
  have h2 : ps.length + 1 ≤ 140737488355328 := by omega
  simp only [aappend, arowsS, hall, if_true, hget, List.length_map, List.length_cons, List.length_nil, Nat.zero_add, h1, h2, hsz, and_self, List.map_append]
  rfl

section
variable (s : List UInt8) (A : List Token) (L : Nat) (T : List UInt8) (ps : List Nat) (sz i : Nat) (x : Token)

/-- What a round of the first loop leaves. -/
def nextT : List UInt8 := if x.kind = 0 then T else T ++ written x ++ [32]

/-- The state ahead of a round. -/
def S0 (T : List UInt8) (ps : List Nat) (sz i : Nat) : List AVal × Heap :=
  ([.str s, .bool false, .slice (A.map Token.cells) .no, .str T, .slice (ps.map nc) (.own 1), .int .i64 (i : Int)], HM ps.length sz)

set_option maxRecDepth 10000 in
set_option maxHeartbeats 40000000 in
theorem m5_round (hs : s.length ≤ 65536) (hA : A.length = L + 1) (hL : L ≤ 65537) (hT : T.length ≤ 65536) (hsz : sz = 1 ∨ ps.length = 0 ∧ sz = 0) (hp : ps.length ≤ 65537) (hx : A[i]? = some x) (hxp : x.pos ≤ s.length)
    (hw : (written x).length ≤ 4294967296) (hn : x.num ≤ 4294967295) (hprev : 0 < i → ∃ y, A[i - 1]? = some y ∧ y.pos < x.pos) (hk : x.kind = 0 ↔ i = L) (htx : x.kind ≠ 2 → x.pos + x.text.length ≤ s.length ∧ (s.drop x.pos).take x.text.length = x.text) :
    m5_l0 KK 2 (S0 s A T ps sz i) =
      if 65536 < (nextT T x).length then some (.ret, [.str s, .bool true, .slice (A.map Token.cells) .no, .str (nextT T x), .slice ((ps ++ [T.length]).map nc) (.own 1), .int .i64 (i : Int)], HM (ps.length + 1) 1)
      else some (.normal, S0 s A (nextT T x) (ps ++ [T.length]) 1 (i + 1)) := by
  obtain ⟨k, p, q, t⟩ := x
  simp only [] at hxp hn hprev hk htx
  have hi : i < A.length := by
    rcases Nat.lt_or_ge i A.length with h | h
    · exact h
    · rw [List.getElem?_eq_none h] at hx; cases hx
  have hxx : A[i] = ⟨k, p, q, t⟩ := by rw [List.getElem?_eq_getElem hi] at hx; exact Option.some.inj hx
  have hi2 : i < L + 1 := by omega
  have hi' : (i : Int) < L + 1 := by omega
  have p0 : ¬ (p : Int) < 0 := by omega
  have p1 : ¬ s.length < p := by omega
  have p1' : ¬ (s.length : Int) < p := by omega
  have wL : IntKind.wrap .i64 (L : Int) = (L : Int) := by rw [wrap64] <;> omega
  have w : IntKind.wrap .i64 ((i : Int) + 1) = ((i + 1 : Nat) : Int) := by rw [wrap64] <;> omega
  have c24' := c24 ⟨k, p, q, t⟩ hn
  have ha8 := app8 ps sz hsz hp [.int .i64 (k : Int), .int .i64 (p : Int), .int .i64 (q : Int), .str t] T.length
  simp only [Token.cells] at c24'
  have hcat1 : T.length + (written ⟨k, p, q, t⟩).length ≤ 4611686018427387904 := by omega
  have hcat2 : T.length + ((written ⟨k, p, q, t⟩).length + 1) ≤ 4611686018427387904 := by omega
  have hcat3 : T.length + (written ⟨k, p, q, t⟩).length + 1 ≤ 4611686018427387904 := by omega
  have hlast : ((i : Int) = L) ↔ i = L := by omega
  by_cases hi0 : i = 0
  · subst hi0
    have v1 : IntKind.wrap .i64 1 = 1 := by decide
    have v0 : IntKind.wrap .i64 0 = 0 := by decide
    have ix0 := aindexSl_map (enc := Token.cells) (sz := 4) (xs := A) (t := .no) (k := .i64) (i := 0)
    rw [hx] at ix0
    simp only [Int.cast_ofNat_Int, Int.natCast_zero, tok_len, Option.map_some, Token.cells, Nat.le_refl, if_true] at ix0
    simp only [Int.cast_ofNat_Int, Int.natCast_zero] at hi' w hlast
    by_cases hk0 : k = 0
    · subst hk0
      have hiL : 0 = L := hk.1 rfl
      have hiL' : ((0 : Int)) = L := by omega
      obtain ⟨t1, t2⟩ := htx (by decide)
      simp only [Int.cast_ofNat_Int, Int.natCast_zero] at ha8 c24'
      have t1' : ¬ (s.length : Int) < (p : Int) + t.length := by omega
      have t1n : ¬ s.length < p + t.length := by omega
      have w2 : IntKind.wrap .i64 ((p : Int) + t.length) = ((p + t.length : Nat) : Int) := by rw [wrap64] <;> omega
      have hsl : asliceStr (.str s) (some (.int .i64 (p : Int))) (some (.int .i64 ((p + t.length : Nat) : Int))) = some (.str t) := by
        have := asliceStr_nat (s := s) (lo := some (.int .i64 (p : Int))) (hi := some (.int .i64 ((p + t.length : Nat) : Int))) abound_nat abound_nat (Nat.le_add_right _ _) t1
        rw [this, Nat.add_sub_cancel_left, t2]
      have hnx : nextT T ⟨0, p, q, t⟩ = T := rfl
      have hb1 : ¬ 65536 < T.length := by omega
      have hb2 : ¬ (65536 : Int) < (T.length : Int) := by omega
      rw [hnx, if_neg hb1]
      simp only [Int.natCast_add, Int.cast_ofNat_Int] at hsl w2
      subst hiL
      simp -implicitDefEqProofs [m5_l0, S0, HM, hA, hi, hi', hi2, hxx, hx, ix0, v0, v1, Token.cells, anew, tokCells, putCells, p0, p1, p1', w2, t1', t1n, hsl, wL, build8, ha8, c24', hcat1, hcat2, hcat3, hb1, hb2, w, c23, endR, trunc_HM, san1_ptr]
    · have hk0' : ¬ (k : Int) = 0 := by omega
      have hiL : ¬ 0 = L := by omega
      have hiL' : ¬ (0 : Int) = L := by omega
      have hiL2 : ¬ L = 0 := by omega
      have hiL3 : ¬ (L : Int) = 0 := by omega
      have hnx : nextT T ⟨k, p, q, t⟩ = T ++ written ⟨k, p, q, t⟩ ++ [32] := by unfold nextT; rw [if_neg hk0]
      rw [hnx]
      by_cases hk2 : k = 2
      · subst hk2
        simp only [Int.cast_ofNat_Int] at ha8 c24'
        generalize written ⟨2, p, q, t⟩ = wr at *
        by_cases hbig : 65536 < (T ++ wr ++ [32]).length
        · rw [if_pos hbig]
          have hb1 : 65536 < T.length + ((wr).length + 1) := by simpa using hbig
          have hb2 : (65536 : Int) < (T.length : Int) + (((wr).length : Int) + 1) := by omega
          simp -implicitDefEqProofs [m5_l0, S0, HM, hA, hi, hi', hi2, hxx, hx, ix0, v0, v1, Token.cells, anew, tokCells, putCells, p0, p1, p1', hk0, hk0', hiL, hiL', hiL2, hiL3, wL, build8, ha8, c24', hcat1, hcat2, hcat3, hb1, hb2, w, c23, endR, trunc_HM, san1_ptr]
        · rw [if_neg hbig]
          have hb1 : ¬ 65536 < T.length + ((wr).length + 1) := by simpa using hbig
          have hb2 : ¬ (65536 : Int) < (T.length : Int) + (((wr).length : Int) + 1) := by omega
          simp -implicitDefEqProofs [m5_l0, S0, HM, hA, hi, hi', hi2, hxx, hx, ix0, v0, v1, Token.cells, anew, tokCells, putCells, p0, p1, p1', hk0, hk0', hiL, hiL', hiL2, hiL3, wL, build8, ha8, c24', hcat1, hcat2, hcat3, hb1, hb2, w, c23, endR, trunc_HM, san1_ptr]
      · have hk2' : ¬ (k : Int) = 2 := by omega
        obtain ⟨t1, t2⟩ := htx hk2
        have t1' : ¬ (s.length : Int) < (p : Int) + t.length := by omega
        have t1n : ¬ s.length < p + t.length := by omega
        have w2 : IntKind.wrap .i64 ((p : Int) + t.length) = ((p + t.length : Nat) : Int) := by rw [wrap64] <;> omega
        have hsl : asliceStr (.str s) (some (.int .i64 (p : Int))) (some (.int .i64 ((p + t.length : Nat) : Int))) = some (.str t) := by
          have := asliceStr_nat (s := s) (lo := some (.int .i64 (p : Int))) (hi := some (.int .i64 ((p + t.length : Nat) : Int))) abound_nat abound_nat (Nat.le_add_right _ _) t1
          rw [this, Nat.add_sub_cancel_left, t2]
        have hwr : written ⟨k, p, q, t⟩ = t := by unfold written; rw [if_neg hk2]
        rw [hwr] at hcat1 hcat2 hcat3 ⊢
        simp only [hwr] at c24'
        simp only [Int.natCast_add, Int.cast_ofNat_Int] at hsl w2
        by_cases hbig : 65536 < (T ++ t ++ [32]).length
        · rw [if_pos hbig]
          have hb1 : 65536 < T.length + ((t).length + 1) := by simpa using hbig
          have hb2 : (65536 : Int) < (T.length : Int) + (((t).length : Int) + 1) := by omega
          simp -implicitDefEqProofs [m5_l0, S0, HM, hA, hi, hi', hi2, hxx, hx, ix0, v0, v1, Token.cells, anew, tokCells, putCells, p0, p1, p1', hk0, hk0', hk2, hk2', hiL, hiL', hiL2, hiL3, w2, t1', t1n, hsl, wL, build8, ha8, c24', hcat1, hcat2, hcat3, hb1, hb2, w, c23, endR, trunc_HM, san1_ptr]
        · rw [if_neg hbig]
          have hb1 : ¬ 65536 < T.length + ((t).length + 1) := by simpa using hbig
          have hb2 : ¬ (65536 : Int) < (T.length : Int) + (((t).length : Int) + 1) := by omega
          simp -implicitDefEqProofs [m5_l0, S0, HM, hA, hi, hi', hi2, hxx, hx, ix0, v0, v1, Token.cells, anew, tokCells, putCells, p0, p1, p1', hk0, hk0', hk2, hk2', hiL, hiL', hiL2, hiL3, w2, t1', t1n, hsl, wL, build8, ha8, c24', hcat1, hcat2, hcat3, hb1, hb2, w, c23, endR, trunc_HM, san1_ptr]
  · obtain ⟨y, hy, hyp⟩ := hprev (by omega)
    obtain ⟨yk, yp, yq, yt⟩ := y
    simp only [] at hyp
    have hiB : i - 1 < A.length := by omega
    have hyy : A[i - 1] = ⟨yk, yp, yq, yt⟩ := by rw [List.getElem?_eq_getElem hiB] at hy; exact Option.some.inj hy
    have hi1 : 0 < i := by omega
    have hi1' : (0 : Int) < i := by omega
    have w1 : IntKind.wrap .i64 ((i : Int) - 1) = ((i - 1 : Nat) : Int) := by rw [wrap64] <;> omega
    have hyp' : ¬ p ≤ yp := by omega
    have hyp2 : ¬ (p : Int) ≤ yp := by omega
    by_cases hk0 : k = 0
    · subst hk0
      have hiL : i = L := hk.1 rfl
      have hiL' : ((i : Int)) = L := by omega
      obtain ⟨t1, t2⟩ := htx (by decide)
      simp only [Int.cast_ofNat_Int, Int.natCast_zero] at ha8 c24'
      have t1' : ¬ (s.length : Int) < (p : Int) + t.length := by omega
      have t1n : ¬ s.length < p + t.length := by omega
      have w2 : IntKind.wrap .i64 ((p : Int) + t.length) = ((p + t.length : Nat) : Int) := by rw [wrap64] <;> omega
      have hsl : asliceStr (.str s) (some (.int .i64 (p : Int))) (some (.int .i64 ((p + t.length : Nat) : Int))) = some (.str t) := by
        have := asliceStr_nat (s := s) (lo := some (.int .i64 (p : Int))) (hi := some (.int .i64 ((p + t.length : Nat) : Int))) abound_nat abound_nat (Nat.le_add_right _ _) t1
        rw [this, Nat.add_sub_cancel_left, t2]
      have hnx : nextT T ⟨0, p, q, t⟩ = T := rfl
      have hb1 : ¬ 65536 < T.length := by omega
      have hb2 : ¬ (65536 : Int) < (T.length : Int) := by omega
      rw [hnx, if_neg hb1]
      simp only [Int.natCast_add, Int.cast_ofNat_Int] at hsl w2
      subst hiL
      simp -implicitDefEqProofs [m5_l0, S0, HM, hA, hi, hi', hi2, hxx, hx, hyy, hy, hi0, hi1, hi1', w1, hyp', hyp2, Token.cells, anew, tokCells, putCells, p0, p1, p1', w2, t1', t1n, hsl, wL, build8, ha8, c24', hcat1, hcat2, hcat3, hb1, hb2, w, c23, endR, trunc_HM, san1_ptr]
    · have hk0' : ¬ (k : Int) = 0 := by omega
      have hiL : ¬ i = L := by omega
      have hiL' : ¬ (i : Int) = L := by omega
      have hnx : nextT T ⟨k, p, q, t⟩ = T ++ written ⟨k, p, q, t⟩ ++ [32] := by unfold nextT; rw [if_neg hk0]
      rw [hnx]
      by_cases hk2 : k = 2
      · subst hk2
        simp only [Int.cast_ofNat_Int] at ha8 c24'
        generalize written ⟨2, p, q, t⟩ = wr at *
        by_cases hbig : 65536 < (T ++ wr ++ [32]).length
        · rw [if_pos hbig]
          have hb1 : 65536 < T.length + ((wr).length + 1) := by simpa using hbig
          have hb2 : (65536 : Int) < (T.length : Int) + (((wr).length : Int) + 1) := by omega
          simp -implicitDefEqProofs [m5_l0, S0, HM, hA, hi, hi', hi2, hxx, hx, hyy, hy, hi0, hi1, hi1', w1, hyp', hyp2, Token.cells, anew, tokCells, putCells, p0, p1, p1', hk0, hk0', hiL, hiL', wL, build8, ha8, c24', hcat1, hcat2, hcat3, hb1, hb2, w, c23, endR, trunc_HM, san1_ptr]
        · rw [if_neg hbig]
          have hb1 : ¬ 65536 < T.length + ((wr).length + 1) := by simpa using hbig
          have hb2 : ¬ (65536 : Int) < (T.length : Int) + (((wr).length : Int) + 1) := by omega
          simp -implicitDefEqProofs [m5_l0, S0, HM, hA, hi, hi', hi2, hxx, hx, hyy, hy, hi0, hi1, hi1', w1, hyp', hyp2, Token.cells, anew, tokCells, putCells, p0, p1, p1', hk0, hk0', hiL, hiL', wL, build8, ha8, c24', hcat1, hcat2, hcat3, hb1, hb2, w, c23, endR, trunc_HM, san1_ptr]
      · have hk2' : ¬ (k : Int) = 2 := by omega
        obtain ⟨t1, t2⟩ := htx hk2
        have t1' : ¬ (s.length : Int) < (p : Int) + t.length := by omega
        have t1n : ¬ s.length < p + t.length := by omega
        have w2 : IntKind.wrap .i64 ((p : Int) + t.length) = ((p + t.length : Nat) : Int) := by rw [wrap64] <;> omega
        have hsl : asliceStr (.str s) (some (.int .i64 (p : Int))) (some (.int .i64 ((p + t.length : Nat) : Int))) = some (.str t) := by
          have := asliceStr_nat (s := s) (lo := some (.int .i64 (p : Int))) (hi := some (.int .i64 ((p + t.length : Nat) : Int))) abound_nat abound_nat (Nat.le_add_right _ _) t1
          rw [this, Nat.add_sub_cancel_left, t2]
        have hwr : written ⟨k, p, q, t⟩ = t := by unfold written; rw [if_neg hk2]
        rw [hwr] at hcat1 hcat2 hcat3 ⊢
        simp only [hwr] at c24'
        simp only [Int.natCast_add, Int.cast_ofNat_Int] at hsl w2
        by_cases hbig : 65536 < (T ++ t ++ [32]).length
        · rw [if_pos hbig]
          have hb1 : 65536 < T.length + ((t).length + 1) := by simpa using hbig
          have hb2 : (65536 : Int) < (T.length : Int) + (((t).length : Int) + 1) := by omega
          simp -implicitDefEqProofs [m5_l0, S0, HM, hA, hi, hi', hi2, hxx, hx, hyy, hy, hi0, hi1, hi1', w1, hyp', hyp2, Token.cells, anew, tokCells, putCells, p0, p1, p1', hk0, hk0', hk2, hk2', hiL, hiL', w2, t1', t1n, hsl, wL, build8, ha8, c24', hcat1, hcat2, hcat3, hb1, hb2, w, c23, endR, trunc_HM, san1_ptr]
        · rw [if_neg hbig]
          have hb1 : ¬ 65536 < T.length + ((t).length + 1) := by simpa using hbig
          have hb2 : ¬ (65536 : Int) < (T.length : Int) + (((t).length : Int) + 1) := by omega
          simp -implicitDefEqProofs [m5_l0, S0, HM, hA, hi, hi', hi2, hxx, hx, hyy, hy, hi0, hi1, hi1', w1, hyp', hyp2, Token.cells, anew, tokCells, putCells, p0, p1, p1', hk0, hk0', hk2, hk2', hiL, hiL', w2, t1', t1n, hsl, wL, build8, ha8, c24', hcat1, hcat2, hcat3, hb1, hb2, w, c23, endR, trunc_HM, san1_ptr]
end
end Go.Proofs.YtkeoalhglkfbkaaDoor

/-
  LexAgain answers true, by the evaluator: its loops and the whole function. No conditions.
-/
import Derived.Test.YtkeoalhglkfbkaaDoorS
set_option linter.unusedVariables false
set_option linter.unusedSimpArgs false
namespace Go.Proofs.YtkeoalhglkfbkaaDoor
open Go Hk

/-! ### What a text's tokens are like -/
def Fact (s : List UInt8) (x : Token) : Prop := x.pos < s.length ∧ Good x ∧ (x.kind ≠ 2 → (s.drop x.pos).take x.text.length = x.text)

theorem lexFrom_facts (s : List UInt8) (a : Nat) (out : List Token) : (∃ p, lexFrom s a out = ([], 9, p)) ∨
    ∃ l, lexFrom s a out = (out ++ l ++ [⟨0, s.length, 0, []⟩], 0, 0) ∧ (∀ x ∈ l, a ≤ x.pos ∧ Fact s x) ∧ l.Pairwise (fun x y => x.pos < y.pos) := by
  induction hm : s.length - a using Nat.strongRecOn generalizing a out with
  | _ m ih =>
    have hge := skipTo_ge s a
    by_cases hlt : skipTo s a < s.length
    · cases h3 : oneS (s.drop (skipTo s a)) (skipTo s a) with
      | none => exact .inl ⟨_, lex_bad rfl hlt h3⟩
      | some x =>
        obtain ⟨y, n⟩ := x
        have hy := oneS_at h3
        have hgood := good_of h3
        rcases ih (s.length - (skipTo s a + max 1 n)) (by omega) (skipTo s a + max 1 n) (out ++ [y]) rfl with ⟨p, h⟩ | ⟨l, h, h1, h2⟩
        · exact .inl ⟨p, (lex_step rfl hlt h3 rfl).trans h⟩
        · refine .inr ⟨y :: l, (lex_step rfl hlt h3 rfl).trans (h.trans (by simp)), ?_, ?_⟩
          · intro z hz
            rcases List.mem_cons.1 hz with rfl | hz
            · exact ⟨by omega, by omega, hgood.1, by rw [hy]; exact hgood.2⟩
            · exact ⟨by have := (h1 z hz).1; omega, (h1 z hz).2⟩
          · refine List.pairwise_cons.2 ⟨fun z hz => ?_, h2⟩
            have := (h1 z hz).1
            omega
    · exact .inr ⟨[], (lex_end hlt).trans (by simp), by simp, List.Pairwise.nil⟩

theorem writeAll_app : ∀ (d r : List Token), writeAll (d ++ r) = writeAll d ++ writeAll r
  | [], r => rfl
  | x :: d, r => by simp [writeAll, writeAll_app d r]
theorem placed_app : ∀ (d r : List Token) (p : Nat), placed p (d ++ r) = placed p d ++ placed (p + (writeAll d).length) r
  | [], r, p => rfl
  | x :: d, r, p => by
    simp only [List.cons_append, placed, placed_app d r, writeAll, List.length_append, List.length_cons]
    congr 3; omega
def ats (p : Nat) (l : List Token) : List Nat := (placed p l).map (·.pos)
theorem ats_app (d : List Token) (x : Token) : ats 0 (d ++ [x]) = ats 0 d ++ [(writeAll d).length] := by
  simp [ats, placed_app, placed, moved]
theorem placed_len : ∀ (l : List Token) (p : Nat), (placed p l).length = l.length
  | [], _ => rfl
  | x :: l, p => by simp [placed, placed_len l]
theorem ats_len (l : List Token) (p : Nat) : (ats p l).length = l.length := by simp [ats, placed_len]
theorem placed_get : ∀ (l : List Token) (p i : Nat) (x : Token), l[i]? = some x → ∃ q, (ats p l)[i]? = some q ∧ (placed p l)[i]? = some (moved x q)
  | [], _, _, _, h => by simp at h
  | y :: l, p, 0, x, h => by
    obtain rfl : y = x := by simpa using h
    exact ⟨p, rfl, rfl⟩
  | y :: l, p, i + 1, x, h => by
    obtain ⟨q, h1, h2⟩ := placed_get l (p + ((written y).length + 1)) i x (by simpa using h)
    exact ⟨q, by simpa [ats, placed] using h1, by simpa [placed] using h2⟩

theorem written_len {x : Token} (h1 : x.num ≤ 4294967295) (h2 : x.text.length ≤ 65536) : (written x).length ≤ 4294967296 := by
  unfold written
  split
  · unfold decS
    split
    · simp
    · have := digs_len x.num [] h1
      simp at this
      omega
  · omega

def endT (s : List UInt8) : Token := ⟨0, s.length, 0, []⟩

section
variable (s : List UInt8) (l : List Token)

theorem m5_exit (T : List UInt8) (ps : List Nat) (sz : Nat) (A : List Token) : m5_l0 KK 2 (S0 s A T ps sz A.length) = some (.exit 0, S0 s A T ps sz A.length) := by
  simp [m5_l0, S0, HM, endR, trunc_HM, san1_ptr]

theorem m5_loop (hs : s.length ≤ 65536) (hL : l.length ≤ 65536) (hf : ∀ x ∈ l, Fact s x) (hinc : l.Pairwise (fun x y => x.pos < y.pos)) :
    ∀ (r d : List Token), l = d ++ r → (writeAll d).length ≤ 65536 → ∀ sz, (sz = 1 ∨ (ats 0 d).length = 0 ∧ sz = 0) →
      (∃ (T : List UInt8) (P : List Nat) (n : Nat) (i : Int), lpW (m5_l0 KK 2) (S0 s (l ++ [endT s]) (writeAll d) (ats 0 d) sz d.length) = some (.ret, [.str s, .bool true, .slice ((l ++ [endT s]).map Token.cells) .no, .str T, .slice (P.map nc) (.own 1), .int .i64 i], HM n 1)) ∨
      ((writeAll l).length ≤ 65536 ∧ lpW (m5_l0 KK 2) (S0 s (l ++ [endT s]) (writeAll d) (ats 0 d) sz d.length) = some (.exit 0, S0 s (l ++ [endT s]) (writeAll l) (ats 0 l ++ [(writeAll l).length]) 1 (l.length + 1)))
  | [], d, hd, hw, sz, hsz => by
    right
    obtain rfl : l = d := by simpa using hd
    refine ⟨hw, ?_⟩
    have hx : (l ++ [endT s])[l.length]? = some (endT s) := by simp
    have round := m5_round s (l ++ [endT s]) l.length (writeAll l) (ats 0 l) sz l.length (endT s) hs (by simp) (by omega) hw hsz (by rw [ats_len]; omega) hx (Nat.le_refl _) (by simp [written, endT]) (Nat.zero_le _)
      (fun h0 => by
        have hi : l.length - 1 < l.length := by omega
        refine ⟨l[l.length - 1], ?_, (hf _ (List.getElem_mem hi)).1⟩
        rw [List.getElem?_append_left hi, List.getElem?_eq_getElem hi]) ⟨fun _ => rfl, fun _ => rfl⟩ (fun _ => ⟨by simp [endT], by simp [endT]⟩)
    have hn : nextT (writeAll l) (endT s) = writeAll l := rfl
    rw [hn, if_neg (by omega)] at round
    rw [lpW_step, round]
    simp only [Option.bind_some, thenDo_normal]
    have hex := m5_exit s (writeAll l) (ats 0 l ++ [(writeAll l).length]) 1 (l ++ [endT s])
    have hlen : (l ++ [endT s]).length = l.length + 1 := by simp
    rw [hlen] at hex
    rw [lpW_step, hex]
    rfl
  | x :: r, d, hd, hw, sz, hsz => by
    have hx : (l ++ [endT s])[d.length]? = some x := by rw [hd]; simp
    have hmem : x ∈ l := by rw [hd]; simp
    obtain ⟨f1, f2, f3⟩ := hf x hmem
    have hgood := f2
    obtain ⟨g1, g2, g3, _, _⟩ := hgood
    have hdl : d.length < l.length := by rw [hd]; simp
    have round := m5_round s (l ++ [endT s]) l.length (writeAll d) (ats 0 d) sz d.length x hs (by simp) (by omega) hw hsz (by rw [ats_len]; omega) hx (by omega) (written_len g2 g3) g2
      (fun h0 => by
        have hi : d.length - 1 < d.length := by omega
        refine ⟨d[d.length - 1], ?_, ?_⟩
        · rw [hd, List.append_assoc, List.getElem?_append_left hi, List.getElem?_eq_getElem hi]
        · rw [hd] at hinc
          exact (List.pairwise_append.1 hinc).2.2 _ (List.getElem_mem hi) x (by simp)) ⟨fun h => absurd h g1, fun h => by omega⟩
      (fun hk => by
        have := f3 hk
        refine ⟨?_, this⟩
        have h2 := congrArg List.length this
        simp at h2
        omega)
    have hn : nextT (writeAll d) x = writeAll (d ++ [x]) := by
      unfold nextT; rw [if_neg g1, writeAll_app]; simp [writeAll]
    rw [hn] at round
    rw [lpW_step, round]
    by_cases hbig : 65536 < (writeAll (d ++ [x])).length
    · left
      rw [if_pos hbig]
      exact ⟨_, _, _, _, rfl⟩
    · rw [if_neg hbig]
      simp only [Option.bind_some, thenDo_normal]
      have ih := m5_loop hs hL hf hinc r (d ++ [x]) (by rw [hd]; simp) (by omega) 1 (.inl rfl)
      rw [ats_app] at ih
      have hlen : (d ++ [x]).length = d.length + 1 := by simp
      rw [hlen] at ih
      exact ih

def H4 (n sz : Nat) : Heap := [.cells [.int .i64 0, .int .i64 0], .front n sz, .cells [.int .i64 0, .int .i64 0]]
theorem trunc_H4 {n sz : Nat} {bs : Heap} : trunc 3 (.cells [.int .i64 0, .int .i64 0] :: .front n sz :: .cells [.int .i64 0, .int .i64 0] :: bs) = some [.cells [.int .i64 0, .int .i64 0], .front n sz, .cells [.int .i64 0, .int .i64 0]] := by simp [trunc]
theorem nc_len {p : Nat} : (nc p).length = 1 := rfl

theorem m5_second (A B : List Token) (P : List Nat) (n sz : Nat) (hl : A.length ≤ 65537) (hB : B.length = A.length) (hp : ∀ (i : Nat) (x : Token), A[i]? = some x → ∃ p : Nat, P[i]? = some p ∧ B[i]? = some (moved x p)) :
    lpW (m5_l1 KK 3) ([.bool false, .slice (A.map Token.cells) .no, .slice (P.map nc) (.own 1), .slice (B.map Token.cells) .no, .int .i64 (0 : Nat)], H4 n sz) =
      some (.exit 2, [.bool false, .slice (A.map Token.cells) .no, .slice (P.map nc) (.own 1), .slice (B.map Token.cells) .no, .int .i64 (A.length : Nat)], H4 n sz) := by
  refine lpW_measure (σ := Nat) (fun i => ([.bool false, .slice (A.map Token.cells) .no, .slice (P.map nc) (.own 1), .slice (B.map Token.cells) .no, .int .i64 i], H4 n sz)) (fun i => i ≤ A.length) (fun i => A.length - i) (fun _ => _) ?_ 0 (Nat.zero_le _)
  intro i hi
  by_cases h : i < A.length
  · left
    refine ⟨i + 1, ?_, by omega, by omega, rfl⟩
    have w : IntKind.wrap .i64 ((i : Int) + 1) = ((i + 1 : Nat) : Int) := by rw [wrap64] <;> omega
    have hx : A[i]? = some A[i] := List.getElem?_eq_getElem h
    obtain ⟨p, hP, hBx⟩ := hp i _ hx
    obtain ⟨x, hxx⟩ : ∃ x, A[i] = x := ⟨_, rfl⟩
    rw [hxx] at hx hBx
    obtain ⟨k, q, num, t⟩ := x
    have hiB : i < B.length := by omega
    have hBB : B[i] = moved ⟨k, q, num, t⟩ p := by rw [List.getElem?_eq_getElem hiB] at hBx; exact Option.some.inj hBx
    have hiP : i < P.length := (List.getElem?_eq_some_iff.1 hP).1
    have hPP : P[i] = p := (List.getElem?_eq_some_iff.1 hP).2
    have hlt : (i : Int) < A.length := by omega
    have heq : aeqAgg [.i, .i, .i, .s] (.agg [.int .i64 (k : Int), .int .i64 (p : Int), .int .i64 (num : Int), .str t]) (.agg [.int .i64 (k : Int), .int .i64 (p : Int), .int .i64 (num : Int), .str t]) = some true := by
      have := aeq_token ⟨k, p, num, t⟩ ⟨k, p, num, t⟩
      rw [decide_eq_true rfl] at this
      exact this
    simp -implicitDefEqProofs [m5_l1, H4, hB, h, hlt, hx, hxx, hBx, hBB, hiB, hiP, hP, hPP, moved, Token.cells, nc, anew, tokCells, putCells, heq, w, trunc_H4, endR, san1_ptr]
  · right
    obtain rfl : i = A.length := by omega
    refine ⟨?_, by simp⟩
    simp [m5_l1, H4, hB, trunc_H4, endR, san1_ptr]
end
end Go.Proofs.YtkeoalhglkfbkaaDoor

/-
  The program's tokens of a text, as a plain function. No conditions.
-/
import Derived.Test.YtkeoalhglkfbkaaDoorE
set_option linter.unusedVariables false
set_option linter.unusedSimpArgs false
namespace Go.Proofs.YtkeoalhglkfbkaaDoor
open Go Hk

theorem oneS_pos {l : List UInt8} {a n : Nat} {t : Token} (h : oneS l a = some (t, n)) : 1 ≤ n ∧ n ≤ l.length := by
  unfold oneS at h
  split at h
  · cases h
  · rename_i b r
    have hrl := runOf_le (b :: r)
    split at h
    · rename_i hl
      split at h
      · cases h
      · simp only [Option.some.injEq, Prod.mk.injEq] at h
        obtain ⟨_, rfl⟩ := h
        refine ⟨?_, hrl⟩
        simp [runOf, List.takeWhile_cons, isWord, hl]
    · split at h
      · rename_i hl hd
        split at h
        · cases h
        · simp only [Option.some.injEq, Prod.mk.injEq] at h
          obtain ⟨_, rfl⟩ := h
          refine ⟨?_, hrl⟩
          simp [runOf, List.takeWhile_cons, isWord, hd]
      · split at h
        · cases h
        · rename_i hx
          simp only [Option.some.injEq, Prod.mk.injEq] at h
          obtain ⟨_, rfl⟩ := h
          refine ⟨List.length_pos_iff.2 hx, ?_⟩
          unfold signFrom
          cases hf : signsT.find? fun x => decide ((b :: r).take x.length = x) with
          | none => simp
          | some y =>
            have := List.find?_some hf
            simp only [decide_eq_true_eq] at this
            have := congrArg List.length this
            simp only [List.length_take] at this
            simp only [Option.getD_some]
            omega

/-- The tokens from a place on, behind those that are there; else an error's number, and its place. -/
def lexFrom (s : List UInt8) (at_ : Nat) (out : List Token) : List Token × Nat × Nat :=
  if h : skipTo s at_ < s.length then
    match oneS (s.drop (skipTo s at_)) (skipTo s at_) with
    | none => ([], 9, skipTo s at_)
    | some (t, n) => lexFrom s (skipTo s at_ + max 1 n) (out ++ [t])
  else (out ++ [⟨0, s.length, 0, []⟩], 0, 0)
termination_by s.length - at_
decreasing_by
  have := skipTo_ge s at_
  omega
def lexS (s : List UInt8) : List Token × Nat × Nat := if 65536 < s.length then ([], 5, 0) else lexFrom s 0 []

/-- The memory behind the loop. -/
def HE (W : List (AVal × AVal)) (sg : List (List AVal)) (s : List UInt8) (e p : Int) (at_ : Int) (out : List (List AVal)) (n sz : Nat) : Heap :=
  [.front 0 0, .cells [.int .i64 e, .int .i64 p], .map W, .cells [.str s, .int .i64 at_, .map 2, .slice sg .no, .slice out (.own 4)], .front n sz]

theorem trunc_E {W : List (AVal × AVal)} {sg : List (List AVal)} {s : List UInt8} {e p at_ : Int} {out : List (List AVal)} {n sz : Nat} {bs : Heap} (hW : W.all (fun e => e.2.shut1 5) = true) :
    trunc 5 (.front 0 0 :: .cells [.int .i64 e, .int .i64 p] :: .map W :: .cells [.str s, .int .i64 at_, .map 2, .slice sg .no, .slice out (.own 4)] :: .front n sz :: bs) =
      some (HE W sg s e p at_ out n sz) := by
  simp [HE, trunc, sanBlk, hW]

/-- The loop of Lex. -/
theorem m20_loop (s : List UInt8) (hs : s.length ≤ 65536) (at_ : Nat) (ha : at_ ≤ s.length) (out : List Token) (ho : out.length ≤ at_) (t0 : AVal) (ht0 : t0 = .slice [] (.own 0)) :
    ∃ (tok : Tok) (at' : Int) (out' : List (List AVal)) (n sz : Nat), lpW (m20_l0 KK 5) ([.str s, t0, .ptr 1 0, .ptr 3 0], HL wordsM signsR s (at_ : Nat) (out.map Token.cells)) =
      some (.ret, [.str s, .slice ((lexFrom s at_ out).1.map Token.cells) tok, .ptr 1 0, .ptr 3 0], HE wordsM signsR s (lexFrom s at_ out).2.1 (lexFrom s at_ out).2.2 at' out' n sz) := by
  have hW5 := wordsM_shut 5
  induction hn : s.length - at_ using Nat.strongRecOn generalizing at_ out with
  | _ n ih =>
    rw [lpW_step]
    have hge := skipTo_ge s at_
    have hle := skipTo_le s at_ ha
    have h54 := c54 wordsM signsR s (out.map Token.cells) hW5 hs at_ ha
    rw [lexFrom]
    by_cases h : skipTo s at_ < s.length
    · have hne : ¬ ((skipTo s at_ : Int) = s.length) := by omega
      have h55 := c55 s (out.map Token.cells) hs (skipTo s at_) h (by simp; omega)
      simp only [h, dite_true]
      cases hone : oneS (s.drop (skipTo s at_)) (skipTo s at_) with
      | none =>
        rw [hone] at h55
        refine ⟨.no, (skipTo s at_ : Nat), out.map Token.cells, (out.map Token.cells).length, frSz (out.map Token.cells), ?_⟩
        generalize wordsM = W at *
        generalize signsR = sg at *
        simp only [HL, List.length_map] at h54 h55
        simp only [HL]
        simp [m20_l0, h54, h55, hne, abuild, putCells, hide, hide1, lockIds, addrId, unhide, unhide1, endR, trunc_E hW5, san1_ptr]
      | some tn =>
        obtain ⟨t, k⟩ := tn
        rw [hone] at h55
        obtain ⟨hk1, hk2⟩ := oneS_pos hone
        simp only [List.length_drop] at hk2
        have hmax : max 1 k = k := by omega
        have step : m20_l0 KK 5 ([.str s, t0, .ptr 1 0, .ptr 3 0], HL wordsM signsR s (at_ : Nat) (out.map Token.cells)) =
            some (.normal, [.str s, t0, .ptr 1 0, .ptr 3 0], HL wordsM signsR s (skipTo s at_ + k : Nat) ((out ++ [t]).map Token.cells)) := by
          subst ht0
          generalize wordsM = W at *
          generalize signsR = sg at *
          simp only [HL, List.length_map] at h54 h55
          simp only [HL]
          simp [m20_l0, h54, h55, hne, endR, trunc_E hW5, san1_ptr, HE]
        rw [step]
        simp only [Option.bind_some, thenDo_normal, hmax]
        exact ih (s.length - (skipTo s at_ + k)) (by omega) (skipTo s at_ + k) (by omega) (out ++ [t]) (by simp; omega) rfl
    · have heq : skipTo s at_ = s.length := by omega
      simp only [h, dite_false]
      refine ⟨.own 4, (s.length : Nat), out.map Token.cells, out.length + 1, 4, ?_⟩
      have h1 : (out.length + 1) * 40 ≤ 140737488355328 := by omega
      have h2 : out.length + 1 ≤ 140737488355328 := by omega
      have h3 : frSz (out.map Token.cells) = 4 ∨ (out.map Token.cells).length = 0 ∧ frSz (out.map Token.cells) = 0 := by cases out <;> simp [frSz]
      rw [heq] at h54
      generalize hm : out.map Token.cells = o at *
      have hol : o.length = out.length := by rw [← hm]; simp
      generalize wordsM = W at *
      generalize signsR = sg at *
      simp only [HL] at h54
      simp only [HL]
      have hap : aappend 4 40 [.front 0 0, .cells [.int .i64 0, .int .i64 0], .map W, .cells [.str s, .int .i64 (s.length : Nat), .map 2, .slice sg .no, .slice o (.own 4)], .front o.length (frSz o), .front 1 4] (.slice o (.own 4)) (.slice [[.int .i64 0, .int .i64 (s.length : Nat), .int .i64 0, .str []]] (.own 5)) =
          some (.slice (o ++ [[.int .i64 0, .int .i64 (s.length : Nat), .int .i64 0, .str []]]) (.own 4), [.front 0 0, .cells [.int .i64 0, .int .i64 0], .map W, .cells [.str s, .int .i64 (s.length : Nat), .map 2, .slice sg .no, .slice o (.own 4)], .front (o.length + 1) 4, .front 1 4]) := by
        have hget : ([.front 0 0, .cells [.int .i64 0, .int .i64 0], .map W, .cells [.str s, .int .i64 (s.length : Nat), .map 2, .slice sg .no, .slice o (.own 4)], .front o.length (frSz o), .front 1 4] : Heap)[4]? = some (.front o.length (frSz o)) := rfl
        have hall : ([[.int .i64 0, .int .i64 (s.length : Nat), .int .i64 0, .str []]] : List (List AVal)).all (fun r => r.length == 4) = true := rfl
        have h1' : (o.length + 1) * 40 ≤ 140737488355328 := by omega
        have h2' : o.length + 1 ≤ 140737488355328 := by omega
        simp only [aappend, arowsS, hall, if_true, hget, List.length_cons, List.length_nil, Nat.zero_add, h1', h2', h3, and_self]
        rfl
      simp [m20_l0, h54, abuild, putCells, abuildSlice, abuildRow, pureRow, AVal.pure1, rowsOf, hap, endR, trunc_E hW5, san1_ptr]
      simp [HE, Token.cells, ← hm]

/-- THE PROGRAM's LEXER. -/
theorem c20 (s : List UInt8) (h : Heap) : KK 20 [.str s] h = some (.ret (.tuple [.slice ((lexS s).1.map Token.cells) .no, .agg [.int .i64 ((lexS s).2.1 : Nat), .int .i64 ((lexS s).2.2 : Nat)]]), h) := by
  refine callP_pure rfl rfl (evW_by (m20_eq _ _ _) ?_)
  by_cases hs : 65536 < s.length
  · have hs' : (65536 : Int) < s.length := by omega
    simp [m20, anew, tokCells, abuild, putCells, hs', lexS, hs, finR_zero]
  · have hs' : ¬ (65536 : Int) < s.length := by omega
    obtain ⟨tok, at', out', n, sz, hl⟩ := m20_loop s (by omega) 0 (Nat.zero_le _) [] (Nat.zero_le _) _ rfl
    have hlex : lexS s = lexFrom s 0 [] := by simp [lexS, hs]
    rw [hlex]
    have h52 := c52
    have h53 := c53
    generalize wordsM = W at *
    generalize signsR = sg at *
    simp only [HL, HE, List.map_nil, Int.ofNat_eq_natCast, Int.cast_ofNat_Int, List.length_nil, frSz] at hl
    simp [m20, anew, tokCells, abuild, putCells, hs', h52, h53, hl, finR_zero]
    cases tok <;> rfl

end Go.Proofs.YtkeoalhglkfbkaaDoor

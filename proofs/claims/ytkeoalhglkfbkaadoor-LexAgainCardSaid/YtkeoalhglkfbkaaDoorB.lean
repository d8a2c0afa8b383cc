/-
  What the program's lexer does with its state: going past blanks and remarks; a run of letters and digits. No conditions but on sizes.
-/
import Derived.Test.YtkeoalhglkfbkaaDoorA
set_option linter.unusedVariables false
set_option linter.unusedSimpArgs false
namespace Go.Proofs.YtkeoalhglkfbkaaDoor
open Go Hk

/-- How many bytes there are up to a line's end. -/
def lineLen (l : List UInt8) : Nat := (l.takeWhile fun b => !decide (b = 10)).length

theorem lineLen_le (l : List UInt8) : lineLen l ≤ l.length := by
  unfold lineLen; exact (List.takeWhile_prefix _).length_le

theorem aindexByte_line (l : List UInt8) : aindexByte l 10 = if lineLen l < l.length then (lineLen l : Int) else -1 := by
  induction l with
  | nil => simp [aindexByte, lineLen]
  | cons b l ih =>
    have hlen := lineLen_le l
    by_cases hb : b = 10
    · subst hb; simp [aindexByte, lineLen]
    · have e : lineLen (b :: l) = lineLen l + 1 := by simp [lineLen, List.takeWhile_cons, hb]
      rw [e]
      simp only [aindexByte, ih, beq_iff_eq, hb, if_false, List.length_cons]
      by_cases h : lineLen l < l.length
      · have h2 : lineLen l + 1 < l.length + 1 := Nat.succ_lt_succ h
        have : ¬ ((lineLen l : Int) = -1) := by omega
        simp [h, this]
      · have h2 : ¬ lineLen l + 1 < l.length + 1 := fun h2 => h (Nat.lt_of_succ_lt_succ h2)
        simp [h]

/-- Where the next token begins. -/
def skipTo (s : List UInt8) (at_ : Nat) : Nat :=
  if h : at_ < s.length then
    if isBlank s[at_] then skipTo s (at_ + 1)
    else if (s.drop at_).take 2 = [47, 47] then skipTo s (at_ + max 1 (lineLen (s.drop at_))) else at_
  else at_
termination_by s.length - at_

theorem skipTo_ge (s : List UInt8) (at_ : Nat) : at_ ≤ skipTo s at_ := by
  fun_induction skipTo s at_ <;> omega
theorem skipTo_le (s : List UInt8) (at_ : Nat) (h : at_ ≤ s.length) : skipTo s at_ ≤ s.length := by
  fun_induction skipTo s at_ with
  | case1 at_ h1 h2 ih => exact ih (by omega)
  | case2 at_ h1 h2 h3 ih =>
    apply ih
    have := lineLen_le (s.drop at_)
    simp at this
    omega
  | case3 => omega
  | case4 => omega

/-- A remark is at least two bytes. -/
theorem line_two {l : List UInt8} (h : l.take 2 = [47, 47]) : 2 ≤ lineLen l := by
  match l, h with
  | a :: b :: r, h =>
    simp at h
    obtain ⟨rfl, rfl⟩ := h
    simp [lineLen, List.takeWhile_cons]
  | [a], h => simp at h
  | [], h => simp at h

/-- The lexer's memory. -/
def frSz : List (List AVal) → Nat
  | [] => 0
  | _ => 4
def HL (W : List (AVal × AVal)) (sg : List (List AVal)) (s : List UInt8) (at_ : Int) (out : List (List AVal)) : Heap :=
  [.front 0 0, .cells [.int .i64 0, .int .i64 0], .map W, .cells [.str s, .int .i64 at_, .map 2, .slice sg .no, .slice out (.own 4)], .front out.length (frSz out)]

theorem trunc_HL {W : List (AVal × AVal)} {sg : List (List AVal)} {s : List UInt8} {at_ : Int} {out : List (List AVal)} (hW : W.all (fun e => e.2.shut1 5) = true) :
    trunc 5 [.front 0 0, .cells [.int .i64 0, .int .i64 0], .map W, .cells [.str s, .int .i64 at_, .map 2, .slice sg .no, .slice out (.own 4)], .front out.length (frSz out)] =
      some [.front 0 0, .cells [.int .i64 0, .int .i64 0], .map W, .cells [.str s, .int .i64 at_, .map 2, .slice sg .no, .slice out (.own 4)], .front out.length (frSz out)] := by
  simp [trunc, sanBlk, hW]

theorem drop_get {s : List UInt8} {at_ : Nat} (h : at_ < s.length) : asliceStr (.str s) (some (.int .i64 (at_ : Int))) none = some (.str (s.drop at_)) := by
  have := asliceStr_nat (s := s) (lo := some (.int .i64 (at_ : Int))) (hi := none) abound_nat abound_none (Nat.le_of_lt h) (Nat.le_refl _)
  rw [this, List.take_of_length_le (by simp)]

theorem c109n (s : List UInt8) (h : Heap) : KK 109 [.str s, .int .u8 10] h = some (.ret (.int .i64 (aindexByte s 10)), h) := c109 s 10 h

theorem m54_loop (W : List (AVal × AVal)) (sg : List (List AVal)) (s : List UInt8) (out : List (List AVal)) (hW : W.all (fun e => e.2.shut1 5) = true) (hs : s.length ≤ 65536) (at_ : Nat) (ha : at_ ≤ s.length) :
    ∃ e : Ex, (e = .exit 0 ∨ e = .ret) ∧ lpW (m54_l0 KK 5) ([.ptr 3 0], HL W sg s (at_ : Nat) out) = some (e, [.ptr 3 0], HL W sg s (skipTo s at_ : Nat) out) := by
  induction hn : s.length - at_ using Nat.strongRecOn generalizing at_ with
  | _ n ih =>
    rw [lpW_step]
    rw [skipTo]
    by_cases h : at_ < s.length
    · have hi : s[at_]? = some s[at_] := List.getElem?_eq_getElem h
      have h' : (at_ : Int) < s.length := by omega
      by_cases hb : isBlank s[at_] = true
      · have w : IntKind.wrap .i64 ((at_ : Int) + 1) = (at_ : Int) + 1 := by rw [wrap64] <;> omega
        have step : m54_l0 KK 5 ([.ptr 3 0], HL W sg s (at_ : Nat) out) = some (.normal, [.ptr 3 0], HL W sg s (at_ + 1 : Nat) out) := by
          simp [m54_l0, HL, h', hi, c107, hb, w, putCells, endR, trunc_HL hW, san1_ptr]
        rw [step]
        simp only [Option.bind_some, thenDo_normal, h, dite_true, hb, if_true]
        exact ih (s.length - (at_ + 1)) (by omega) (at_ + 1) (by omega) rfl
      · have hd := drop_get h
        have hbf : isBlank s[at_] = false := by simpa using hb
        simp only [h, dite_true, hbf, Bool.false_eq_true, if_false]
        by_cases hr : (s.drop at_).take 2 = [47, 47]
        · have h2 := line_two hr
          have hll := lineLen_le (s.drop at_)
          have hdl : (s.drop at_).length = s.length - at_ := by simp
          have hix := aindexByte_line (s.drop at_)
          have w : IntKind.wrap .i64 ((at_ : Int) + lineLen (s.drop at_)) = (at_ : Int) + lineLen (s.drop at_) := by rw [wrap64] <;> omega
          have step : m54_l0 KK 5 ([.ptr 3 0], HL W sg s (at_ : Nat) out) = some (.normal, [.ptr 3 0], HL W sg s (at_ + lineLen (s.drop at_) : Nat) out) := by
            by_cases hlt : lineLen (s.drop at_) < (s.drop at_).length
            · rw [if_pos hlt] at hix
              have hneg : ¬ (lineLen (s.drop at_) : Int) < 0 := by omega
              simp [m54_l0, HL, h', hi, c107, hbf, hd, c108, hr, c109n, hix, hneg, w, putCells, endR, trunc_HL hW, san1_ptr]
            · rw [if_neg hlt] at hix
              have e : lineLen (s.drop at_) = s.length - at_ := by omega
              have w1 : IntKind.wrap .i64 ((s.length : Int) - at_) = (s.length : Int) - at_ := by rw [wrap64] <;> omega
              have w2 : IntKind.wrap .i64 ((at_ : Int) + ((s.length : Int) - at_)) = s.length := by rw [wrap64] <;> omega
              have e2 : (at_ : Int) + (lineLen (s.drop at_) : Nat) = s.length := by omega
              simp [m54_l0, HL, h', hi, c107, hbf, hd, c108, hr, c109n, hix, w1, w2, putCells, endR, trunc_HL hW, san1_ptr, e2]
          rw [step]
          simp only [Option.bind_some, thenDo_normal, hr, if_true]
          rw [show max 1 (lineLen (s.drop at_)) = lineLen (s.drop at_) by omega]
          exact ih (s.length - (at_ + lineLen (s.drop at_))) (by omega) (at_ + lineLen (s.drop at_)) (by omega) rfl
        · refine ⟨.ret, .inr rfl, ?_⟩
          simp [m54_l0, HL, h', hi, c107, hbf, hd, c108, hr, endR, trunc_HL hW, san1_ptr]
    · refine ⟨.exit 0, .inl rfl, ?_⟩
      have h' : ¬ (at_ : Int) < s.length := by omega
      simp [m54_l0, HL, h', h, endR, trunc_HL hW, san1_ptr]

/-- Going past blanks and remarks. -/
theorem c54 (W : List (AVal × AVal)) (sg : List (List AVal)) (s : List UInt8) (out : List (List AVal)) (hW : W.all (fun e => e.2.shut1 5) = true) (hs : s.length ≤ 65536) (at_ : Nat) (ha : at_ ≤ s.length) :
    KK 54 [.ptr 3 0] (HL W sg s (at_ : Nat) out) = some (.ret (.tuple []), HL W sg s (skipTo s at_ : Nat) out) := by
  refine evW_by (m54_eq _ _ _) ?_
  obtain ⟨e, he, hl⟩ := m54_loop W sg s out hW hs at_ ha
  have hlen : (HL W sg s (at_ : Nat) out).length = 5 := rfl
  simp only [m54, hlen, hl, Option.bind_some]
  rcases he with rfl | rfl <;> simp [finR, HL, trunc_HL hW]

end Go.Proofs.YtkeoalhglkfbkaaDoor

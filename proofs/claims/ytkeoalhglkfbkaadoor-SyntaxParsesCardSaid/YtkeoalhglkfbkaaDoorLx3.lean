/-
  The texts LX.A, LX.B, LX.C, LX.D, LX.E, LX.F, LX.G, LX.H, LX.I, LX.J, LX.K, LX.N, LX.O, LX.P, LX.Q, LX.R, LX.S, LX.U, LX.V, one behind another. No conditions.
-/
import Derived.Test.YtkeoalhglkfbkaaDoorLx2
set_option linter.unusedVariables false
set_option linter.unusedSimpArgs false
/-
  Signs of the texts: what the small functions on bytes and strings answer. No conditions.
-/
namespace Go.Proofs.YtkeoalhglkfbkaaDoor
open Go Hk

noncomputable abbrev KK : CallO := callP ann (evW Tryd.prog ann)

/-- A byte as a value. -/
abbrev by8 (b : UInt8) : AVal := .int .u8 (b.toNat : Int)

def isDigit (b : UInt8) : Bool := decide (48 ≤ b.toNat) && decide (b.toNat ≤ 57)
def isLetter (b : UInt8) : Bool := decide (97 ≤ b.toNat) && decide (b.toNat ≤ 122) || decide (65 ≤ b.toNat) && decide (b.toNat ≤ 90) || decide (b.toNat = 95)
def isBlank (b : UInt8) : Bool := decide (b.toNat = 32) || decide (b.toNat = 9) || decide (b.toNat = 10) || decide (b.toNat = 13)

theorem m112_spec (K : CallO) (b : UInt8) : m112 K (by8 b) [] = some (.ret (.bool (isDigit b)), []) := by
  by_cases h1 : 48 ≤ b.toNat <;> by_cases h2 : b.toNat ≤ 57
  all_goals
    have h1' : ((48 : Int) ≤ b.toNat) ↔ 48 ≤ b.toNat := by omega
    have h2' : ((b.toNat : Int) ≤ 57) ↔ b.toNat ≤ 57 := by omega
    simp [m112, isDigit, h1, h2, h1', h2', finR_zero]
theorem c112 (b : UInt8) (h : Heap) : KK 112 [by8 b] h = some (.ret (.bool (isDigit b)), h) := callP_pure rfl rfl (evW_by (m112_eq _ _ _) (m112_spec KK b))
theorem c116 (b : UInt8) (h : Heap) : KK 116 [by8 b] h = some (.ret (.bool (isDigit b)), h) := callP_pure rfl rfl (evW_by (m116_eq _ _ _) (m112_spec KK b))

theorem m110_spec (K : CallO) (b : UInt8) : m110 K (by8 b) [] = some (.ret (.bool (isLetter b)), []) := by
  have e1 : ((97 : Int) ≤ b.toNat) ↔ 97 ≤ b.toNat := by omega
  have e2 : ((b.toNat : Int) ≤ 122) ↔ b.toNat ≤ 122 := by omega
  have e3 : ((65 : Int) ≤ b.toNat) ↔ 65 ≤ b.toNat := by omega
  have e4 : ((b.toNat : Int) ≤ 90) ↔ b.toNat ≤ 90 := by omega
  have e5 : ((b.toNat : Int) = 95) ↔ b.toNat = 95 := by omega
  by_cases h1 : 97 ≤ b.toNat <;> by_cases h2 : b.toNat ≤ 122 <;> by_cases h3 : 65 ≤ b.toNat <;> by_cases h4 : b.toNat ≤ 90 <;> by_cases h5 : b.toNat = 95 <;>
    simp [m110, isLetter, e1, e2, e3, e4, e5, h1, h2, h3, h4, h5, finR_zero]
theorem c110 (b : UInt8) (h : Heap) : KK 110 [by8 b] h = some (.ret (.bool (isLetter b)), h) := callP_pure rfl rfl (evW_by (m110_eq _ _ _) (m110_spec KK b))
theorem c115 (b : UInt8) (h : Heap) : KK 115 [by8 b] h = some (.ret (.bool (isLetter b)), h) := callP_pure rfl rfl (evW_by (m115_eq _ _ _) (m110_spec KK b))

theorem m107_spec (K : CallO) (b : UInt8) : m107 K (by8 b) [] = some (.ret (.bool (isBlank b)), []) := by
  have e1 : ((b.toNat : Int) = 32) ↔ b.toNat = 32 := by omega
  have e2 : ((b.toNat : Int) = 9) ↔ b.toNat = 9 := by omega
  have e3 : ((b.toNat : Int) = 10) ↔ b.toNat = 10 := by omega
  have e4 : ((b.toNat : Int) = 13) ↔ b.toNat = 13 := by omega
  by_cases h1 : b.toNat = 32 <;> by_cases h2 : b.toNat = 9 <;> by_cases h3 : b.toNat = 10 <;> by_cases h4 : b.toNat = 13 <;>
    simp [m107, isBlank, e1, e2, e3, e4, h1, h2, h3, h4, finR_zero]
theorem c107 (b : UInt8) (h : Heap) : KK 107 [by8 b] h = some (.ret (.bool (isBlank b)), h) := callP_pure rfl rfl (evW_by (m107_eq _ _ _) (m107_spec KK b))
theorem c114 (b : UInt8) (h : Heap) : KK 114 [by8 b] h = some (.ret (.bool (isBlank b)), h) := callP_pure rfl rfl (evW_by (m114_eq _ _ _) (m107_spec KK b))

/-! ### Strings -/

theorem m170_spec (K : CallO) (s t : List UInt8) : m170 K (.str s) (.str t) [] = some (.ret (.bool (decide (s.take t.length = t))), []) := by
  by_cases h : t.length ≤ s.length
  · have h' : (t.length : Int) ≤ s.length := by omega
    have := asliceStr_nat (s := s) (lo := none) (hi := some (.int .i64 (t.length : Int))) abound_none abound_nat (Nat.zero_le _) h
    simp [m170, h', this, finR_zero]
  · have h' : ¬ (t.length : Int) ≤ s.length := by omega
    have h2 : ¬ s.take t.length = t := fun e => h (by have := congrArg List.length e; simp at this; omega)
    simp [m170, h', h2, finR_zero]
theorem c170 (s t : List UInt8) (h : Heap) : KK 170 [.str s, .str t] h = some (.ret (.bool (decide (s.take t.length = t))), h) := callP_pure rfl rfl (evW_by (m170_eq _ _ _ _) (m170_spec _ s t))
theorem c108 (s t : List UInt8) (h : Heap) : KK 108 [.str s, .str t] h = some (.ret (.bool (decide (s.take t.length = t))), h) :=
  callP_pure rfl rfl (evW_by (m108_eq _ _ _ _) (by simp [m108, c170, finR_zero]))

theorem c171 (s : List UInt8) (b : UInt8) (h : Heap) : KK 171 [.str s, by8 b] h = some (.ret (.int .i64 (aindexByte s b)), h) :=
  callP_pure rfl rfl (evW_by (m171_eq _ _ _ _) (by simp [m171, extC, extV, finR_zero]))
theorem c109 (s : List UInt8) (b : UInt8) (h : Heap) : KK 109 [.str s, by8 b] h = some (.ret (.int .i64 (aindexByte s b)), h) :=
  callP_pure rfl rfl (evW_by (m109_eq _ _ _ _) (by simp [m109, c171, finR_zero]))

/-- What is behind a prefix, and whether it is there. -/
def cutPrefix (s t : List UInt8) : List UInt8 × Bool := if s.take t.length = t then (s.drop t.length, true) else (s, false)
theorem c219 (s t : List UInt8) (h : Heap) : KK 219 [.str s, .str t] h = some (.ret (.tuple [.str (cutPrefix s t).1, .bool (cutPrefix s t).2]), h) :=
  callP_pure rfl rfl (evW_by (m219_eq _ _ _ _) (by
    by_cases hp : s.take t.length = t
    · have hl : t.length ≤ s.length := by have := congrArg List.length hp; simp at this; omega
      have := asliceStr_nat (s := s) (lo := some (.int .i64 (t.length : Int))) (hi := none) abound_nat abound_none hl (Nat.le_refl _)
      have e : (s.drop t.length).take (s.length - t.length) = s.drop t.length := List.take_of_length_le (by simp)
      simp [m219, c170, hp, this, cutPrefix, e, finR_zero]
    · simp [m219, c170, hp, cutPrefix, finR_zero]))
theorem c172 (s t : List UInt8) (h : Heap) : KK 172 [.str s, .str t] h = some (.ret (.tuple [.str (cutPrefix s t).1, .bool (cutPrefix s t).2]), h) :=
  callP_pure rfl rfl (evW_by (m172_eq _ _ _ _) (by simp [m172, c219, finR_zero]))

end Go.Proofs.YtkeoalhglkfbkaaDoor

/-
  What the program's lexer does with its state: going past blanks and remarks; a run of letters and digits. No conditions but on sizes.
-/
namespace Go.Proofs.YtkeoalhglkfbkaaDoor
open Go Hk

/-- How many bytes there are up to a line's end. -/
def lineLen (l : List UInt8) : Nat := (l.takeWhile fun b => !decide (b = 10)).length

theorem lineLen_le (l : List UInt8) : lineLen l ≤ l.length := by
  unfold lineLen; exact (List.takeWhile_prefix _).length_le

theorem aindexByte_line (l : List UInt8) : aindexByte l 10 = if lineLen l < l.length then (lineLen l : Int) else -1 := by
  induction l with
  | nil => simp [aindexByte, lineLen]
  | cons b l ih =>
    have hlen := lineLen_le l
    by_cases hb : b = 10
    · subst hb; simp [aindexByte, lineLen]
    · have e : lineLen (b :: l) = lineLen l + 1 := by simp [lineLen, List.takeWhile_cons, hb]
      rw [e]
      simp only [aindexByte, ih, beq_iff_eq, hb, if_false, List.length_cons]
      by_cases h : lineLen l < l.length
      · have h2 : lineLen l + 1 < l.length + 1 := Nat.succ_lt_succ h
        have : ¬ ((lineLen l : Int) = -1) := by omega
        simp [h, this]
      · have h2 : ¬ lineLen l + 1 < l.length + 1 := fun h2 => h (Nat.lt_of_succ_lt_succ h2)
        simp [h]

/-- Where the next token begins. -/
def skipTo (s : List UInt8) (at_ : Nat) : Nat :=
  if h : at_ < s.length then
    if isBlank s[at_] then skipTo s (at_ + 1)
    else if (s.drop at_).take 2 = [47, 47] then skipTo s (at_ + max 1 (lineLen (s.drop at_))) else at_
  else at_
termination_by s.length - at_

theorem skipTo_ge (s : List UInt8) (at_ : Nat) : at_ ≤ skipTo s at_ := by
  fun_induction skipTo s at_ <;> omega
theorem skipTo_le (s : List UInt8) (at_ : Nat) (h : at_ ≤ s.length) : skipTo s at_ ≤ s.length := by
  fun_induction skipTo s at_ with
  | case1 at_ h1 h2 ih => exact ih (by omega)
  | case2 at_ h1 h2 h3 ih =>
    apply ih
    have := lineLen_le (s.drop at_)
    simp at this
    omega
  | case3 => omega
  | case4 => omega

/-- A remark is at least two bytes. -/
theorem line_two {l : List UInt8} (h : l.take 2 = [47, 47]) : 2 ≤ lineLen l := by
  match l, h with
  | a :: b :: r, h =>
    simp at h
    obtain ⟨rfl, rfl⟩ := h
    simp [lineLen, List.takeWhile_cons]
  | [a], h => simp at h
  | [], h => simp at h

/-- The lexer's memory. -/
def frSz : List (List AVal) → Nat
  | [] => 0
  | _ => 4
def HL (W : List (AVal × AVal)) (sg : List (List AVal)) (s : List UInt8) (at_ : Int) (out : List (List AVal)) : Heap :=
  [.front 0 0, .cells [.int .i64 0, .int .i64 0], .map W, .cells [.str s, .int .i64 at_, .map 2, .slice sg .no, .slice out (.own 4)], .front out.length (frSz out)]

theorem trunc_HL {W : List (AVal × AVal)} {sg : List (List AVal)} {s : List UInt8} {at_ : Int} {out : List (List AVal)} (hW : W.all (fun e => e.2.shut1 5) = true) :
    trunc 5 [.front 0 0, .cells [.int .i64 0, .int .i64 0], .map W, .cells [.str s, .int .i64 at_, .map 2, .slice sg .no, .slice out (.own 4)], .front out.length (frSz out)] =
      some [.front 0 0, .cells [.int .i64 0, .int .i64 0], .map W, .cells [.str s, .int .i64 at_, .map 2, .slice sg .no, .slice out (.own 4)], .front out.length (frSz out)] := by
  simp [trunc, sanBlk, hW]

theorem drop_get {s : List UInt8} {at_ : Nat} (h : at_ < s.length) : asliceStr (.str s) (some (.int .i64 (at_ : Int))) none = some (.str (s.drop at_)) := by
  have := asliceStr_nat (s := s) (lo := some (.int .i64 (at_ : Int))) (hi := none) abound_nat abound_none (Nat.le_of_lt h) (Nat.le_refl _)
  rw [this, List.take_of_length_le (by simp)]

theorem c109n (s : List UInt8) (h : Heap) : KK 109 [.str s, .int .u8 10] h = some (.ret (.int .i64 (aindexByte s 10)), h) := c109 s 10 h

theorem m54_loop (W : List (AVal × AVal)) (sg : List (List AVal)) (s : List UInt8) (out : List (List AVal)) (hW : W.all (fun e => e.2.shut1 5) = true) (hs : s.length ≤ 65536) (at_ : Nat) (ha : at_ ≤ s.length) :
    ∃ e : Ex, (e = .exit 0 ∨ e = .ret) ∧ lpW (m54_l0 KK 5) ([.ptr 3 0], HL W sg s (at_ : Nat) out) = some (e, [.ptr 3 0], HL W sg s (skipTo s at_ : Nat) out) := by
  induction hn : s.length - at_ using Nat.strongRecOn generalizing at_ with
  | _ n ih =>
    rw [lpW_step]
    rw [skipTo]
    by_cases h : at_ < s.length
    · have hi : s[at_]? = some s[at_] := List.getElem?_eq_getElem h
      have h' : (at_ : Int) < s.length := by omega
      by_cases hb : isBlank s[at_] = true
      · have w : IntKind.wrap .i64 ((at_ : Int) + 1) = (at_ : Int) + 1 := by rw [wrap64] <;> omega
        have step : m54_l0 KK 5 ([.ptr 3 0], HL W sg s (at_ : Nat) out) = some (.normal, [.ptr 3 0], HL W sg s (at_ + 1 : Nat) out) := by
          simp [m54_l0, HL, h', hi, c107, hb, w, putCells, endR, trunc_HL hW, san1_ptr]
        rw [step]
        simp only [Option.bind_some, thenDo_normal, h, dite_true, hb, if_true]
        exact ih (s.length - (at_ + 1)) (by omega) (at_ + 1) (by omega) rfl
      · have hd := drop_get h
        have hbf : isBlank s[at_] = false := by simpa using hb
        simp only [h, dite_true, hbf, Bool.false_eq_true, if_false]
        by_cases hr : (s.drop at_).take 2 = [47, 47]
        · have h2 := line_two hr
          have hll := lineLen_le (s.drop at_)
          have hdl : (s.drop at_).length = s.length - at_ := by simp
          have hix := aindexByte_line (s.drop at_)
          have w : IntKind.wrap .i64 ((at_ : Int) + lineLen (s.drop at_)) = (at_ : Int) + lineLen (s.drop at_) := by rw [wrap64] <;> omega
          have step : m54_l0 KK 5 ([.ptr 3 0], HL W sg s (at_ : Nat) out) = some (.normal, [.ptr 3 0], HL W sg s (at_ + lineLen (s.drop at_) : Nat) out) := by
            by_cases hlt : lineLen (s.drop at_) < (s.drop at_).length
            · rw [if_pos hlt] at hix
              have hneg : ¬ (lineLen (s.drop at_) : Int) < 0 := by omega
              simp [m54_l0, HL, h', hi, c107, hbf, hd, c108, hr, c109n, hix, hneg, w, putCells, endR, trunc_HL hW, san1_ptr]
            · rw [if_neg hlt] at hix
              have e : lineLen (s.drop at_) = s.length - at_ := by omega
              have w1 : IntKind.wrap .i64 ((s.length : Int) - at_) = (s.length : Int) - at_ := by rw [wrap64] <;> omega
              have w2 : IntKind.wrap .i64 ((at_ : Int) + ((s.length : Int) - at_)) = s.length := by rw [wrap64] <;> omega
              have e2 : (at_ : Int) + (lineLen (s.drop at_) : Nat) = s.length := by omega
              simp [m54_l0, HL, h', hi, c107, hbf, hd, c108, hr, c109n, hix, w1, w2, putCells, endR, trunc_HL hW, san1_ptr, e2]
          rw [step]
          simp only [Option.bind_some, thenDo_normal, hr, if_true]
          rw [show max 1 (lineLen (s.drop at_)) = lineLen (s.drop at_) by omega]
          exact ih (s.length - (at_ + lineLen (s.drop at_))) (by omega) (at_ + lineLen (s.drop at_)) (by omega) rfl
        · refine ⟨.ret, .inr rfl, ?_⟩
          simp [m54_l0, HL, h', hi, c107, hbf, hd, c108, hr, endR, trunc_HL hW, san1_ptr]
    · refine ⟨.exit 0, .inl rfl, ?_⟩
      have h' : ¬ (at_ : Int) < s.length := by omega
      simp [m54_l0, HL, h', h, endR, trunc_HL hW, san1_ptr]

/-- Going past blanks and remarks. -/
theorem c54 (W : List (AVal × AVal)) (sg : List (List AVal)) (s : List UInt8) (out : List (List AVal)) (hW : W.all (fun e => e.2.shut1 5) = true) (hs : s.length ≤ 65536) (at_ : Nat) (ha : at_ ≤ s.length) :
    KK 54 [.ptr 3 0] (HL W sg s (at_ : Nat) out) = some (.ret (.tuple []), HL W sg s (skipTo s at_ : Nat) out) := by
  refine evW_by (m54_eq _ _ _) ?_
  obtain ⟨e, he, hl⟩ := m54_loop W sg s out hW hs at_ ha
  have hlen : (HL W sg s (at_ : Nat) out).length = 5 := rfl
  simp only [m54, hlen, hl, Option.bind_some]
  rcases he with rfl | rfl <;> simp [finR, HL, trunc_HL hW]

end Go.Proofs.YtkeoalhglkfbkaaDoor

/-
  A run of letters and digits; what a number's letters and digits are worth. No conditions but on sizes.
-/
namespace Go.Proofs.YtkeoalhglkfbkaaDoor
open Go Hk

def isWord (b : UInt8) : Bool := isLetter b || isDigit b
def runOf (l : List UInt8) : List UInt8 := l.takeWhile isWord

theorem runOf_le (l : List UInt8) : (runOf l).length ≤ l.length := (List.takeWhile_prefix _).length_le
theorem take_run (l : List UInt8) : l.take (runOf l).length = runOf l := by
  unfold runOf
  induction l with
  | nil => rfl
  | cons b l ih => by_cases h : isWord b = true <;> simp [List.takeWhile_cons, h, ih]
theorem runOf_cons {s : List UInt8} {n : Nat} (h : n < s.length) : runOf (s.drop n) = if isWord s[n] then s[n] :: runOf (s.drop (n + 1)) else [] := by
  rw [List.drop_eq_getElem_cons h]; simp only [runOf, List.takeWhile_cons]

/-- The lexer's memory, and a token's. -/
def HT (W : List (AVal × AVal)) (sg : List (List AVal)) (s : List UInt8) (at_ : Int) (out : List (List AVal)) (k p n : Int) (t : List UInt8) : Heap :=
  [.front 0 0, .cells [.int .i64 0, .int .i64 0], .map W, .cells [.str s, .int .i64 at_, .map 2, .slice sg .no, .slice out (.own 4)], .front out.length (frSz out), .cells [.int .i64 k, .int .i64 p, .int .i64 n, .str t]]

theorem trunc_HT {W : List (AVal × AVal)} {sg : List (List AVal)} {s : List UInt8} {at_ : Int} {out : List (List AVal)} {k p n : Int} {t : List UInt8} (hW : W.all (fun e => e.2.shut1 6) = true) :
    trunc 6 [.front 0 0, .cells [.int .i64 0, .int .i64 0], .map W, .cells [.str s, .int .i64 at_, .map 2, .slice sg .no, .slice out (.own 4)], .front out.length (frSz out), .cells [.int .i64 k, .int .i64 p, .int .i64 n, .str t]] =
      some [.front 0 0, .cells [.int .i64 0, .int .i64 0], .map W, .cells [.str s, .int .i64 at_, .map 2, .slice sg .no, .slice out (.own 4)], .front out.length (frSz out), .cells [.int .i64 k, .int .i64 p, .int .i64 n, .str t]] := by
  simp [trunc, sanBlk, hW]

section
variable (W : List (AVal × AVal)) (sg : List (List AVal)) (s : List UInt8) (out : List (List AVal)) (k p q : Int) (t : List UInt8)

theorem m111_loop (hW : W.all (fun e => e.2.shut1 6) = true) (hs : s.length ≤ 65536) (at_ n : Nat) (hn : n ≤ s.length) :
    lpW (m111_l0 KK 6) ([.ptr 3 0, .str [], .int .i64 (n : Nat)], HT W sg s (at_ : Nat) out k p q t) = some (.exit 0, [.ptr 3 0, .str [], .int .i64 (n + (runOf (s.drop n)).length : Nat)], HT W sg s (at_ : Nat) out k p q t) := by
  induction hm : s.length - n using Nat.strongRecOn generalizing n with
  | _ m ih =>
    rw [lpW_step]
    by_cases h : n < s.length
    · have hi : s[n]? = some s[n] := List.getElem?_eq_getElem h
      have h' : (n : Int) < s.length := by omega
      by_cases hw : isWord s[n] = true
      · have w : IntKind.wrap .i64 ((n : Int) + 1) = (n : Int) + 1 := by rw [wrap64] <;> omega
        have step : m111_l0 KK 6 ([.ptr 3 0, .str [], .int .i64 (n : Nat)], HT W sg s (at_ : Nat) out k p q t) = some (.normal, [.ptr 3 0, .str [], .int .i64 (n + 1 : Nat)], HT W sg s (at_ : Nat) out k p q t) := by
          cases hl : isLetter s[n] <;> cases hd : isDigit s[n] <;> simp [isWord, hl, hd] at hw <;>
            simp [m111_l0, HT, h', hi, c110, c112, hl, hd, w, endR, trunc_HT hW, san1_ptr]
        rw [step]
        simp only [Option.bind_some, thenDo_normal]
        rw [ih (s.length - (n + 1)) (by omega) (n + 1) (by omega) rfl, runOf_cons h, hw]
        simp; omega
      · have hwf : isWord s[n] = false := by simpa using hw
        have hl : isLetter s[n] = false := by simp [isWord] at hwf; exact hwf.1
        have hd : isDigit s[n] = false := by simp [isWord] at hwf; exact hwf.2
        rw [runOf_cons h, hwf]
        simp [m111_l0, HT, h', hi, c110, c112, hl, hd, endR, trunc_HT hW, san1_ptr]
    · have h' : ¬ (n : Int) < s.length := by omega
      have : s.drop n = [] := List.drop_eq_nil_of_le (by omega)
      simp [m111_l0, HT, h', this, runOf, endR, trunc_HT hW, san1_ptr]

theorem c111 (hW : W.all (fun e => e.2.shut1 6) = true) (hs : s.length ≤ 65536) (at_ : Nat) (ha : at_ ≤ s.length) :
    KK 111 [.ptr 3 0] (HT W sg s (at_ : Nat) out k p q t) = some (.ret (.str (runOf (s.drop at_))), HT W sg s (at_ : Nat) out k p q t) := by
  refine evW_by (m111_eq _ _ _) ?_
  have hl := m111_loop W sg s out k p q t hW hs at_ at_ ha
  have hrl := runOf_le (s.drop at_)
  simp at hrl
  have hsl := asliceStr_nat (s := s) (lo := some (.int .i64 (at_ : Int))) (hi := some (.int .i64 ((at_ + (runOf (s.drop at_)).length : Nat) : Int))) abound_nat abound_nat (by omega) (by omega)
  rw [show at_ + (runOf (s.drop at_)).length - at_ = (runOf (s.drop at_)).length by omega, take_run] at hsl
  simp only [HT, Int.natCast_add] at hl hsl
  simp [m111, HT, hl, hsl, finR, trunc_HT hW]
end

/-! ### Numbers -/

def valueS (hex : Bool) (b : UInt8) : Option Nat :=
  if isDigit b then some (b.toNat - 48) else if hex && (decide (97 ≤ b.toNat) && decide (b.toNat ≤ 102)) then some (b.toNat - 87) else none

theorem wrap8 {n : Int} (h1 : 0 ≤ n) (h2 : n ≤ 255) : IntKind.wrap .u8 n = n := by
  simp [IntKind.wrap, IntKind.signed, IntKind.bits]; omega

theorem u8_lt (b : UInt8) : b.toNat < 256 := b.toNat_lt

def baseOf (hex : Bool) : Nat := if hex then 16 else 10
theorem c173 (hex : Bool) (b : UInt8) (h : Heap) : KK 173 [by8 b, .int .i64 (baseOf hex : Nat)] h = some (.ret (.tuple [.int .i64 ((valueS hex b).getD 0 : Nat), .bool (valueS hex b).isSome]), h) := by
  refine callP_pure rfl rfl (evW_by (m173_eq _ _ _ _) ?_)
  have hb := u8_lt b
  by_cases hd : isDigit b = true
  · have hr : 48 ≤ b.toNat ∧ b.toNat ≤ 57 := by simpa [isDigit] using hd
    have w1 : IntKind.wrap .u8 ((b.toNat : Int) - 48) = (b.toNat : Int) - 48 := wrap8 (by omega) (by omega)
    have w2 : IntKind.wrap .i64 ((b.toNat : Int) - 48) = ((b.toNat - 48 : Nat) : Int) := by rw [wrap64] <;> omega
    simp [m173, c112, hd, w1, w2, valueS, finR_zero]
  · have hdf : isDigit b = false := by simpa using hd
    have e1 : ((97 : Int) ≤ b.toNat) ↔ 97 ≤ b.toNat := by omega
    have e2 : ((b.toNat : Int) ≤ 102) ↔ b.toNat ≤ 102 := by omega
    cases hex with
    | false => simp [m173, c112, hdf, baseOf, valueS, finR_zero]
    | true =>
      by_cases h1 : 97 ≤ b.toNat <;> by_cases h2 : b.toNat ≤ 102
      · have w1 : IntKind.wrap .u8 ((b.toNat : Int) - 97) = (b.toNat : Int) - 97 := wrap8 (by omega) (by omega)
        have w2 : IntKind.wrap .i64 ((b.toNat : Int) - 97) = (b.toNat : Int) - 97 := by rw [wrap64] <;> omega
        have w3 : IntKind.wrap .i64 ((b.toNat : Int) - 97 + 10) = ((b.toNat - 87 : Nat) : Int) := by rw [wrap64] <;> omega
        simp [m173, c112, hdf, baseOf, valueS, e1, e2, h1, h2, w1, w2, w3, finR_zero]
      all_goals simp [m173, c112, hdf, baseOf, valueS, e1, e2, h1, h2, finR_zero]

def digitsVal (hex : Bool) : List UInt8 → Nat → Option Nat
  | [], n => some n
  | b :: r, n => match valueS hex b with
    | none => none
    | some v => if 4294967295 < baseOf hex * n + v then none else digitsVal hex r (baseOf hex * n + v)

theorem valueS_le {hex : Bool} {b : UInt8} {v : Nat} (h : valueS hex b = some v) : v ≤ 15 := by
  unfold valueS at h
  split at h
  · rename_i hd; cases h; simp [isDigit] at hd; omega
  · split at h
    · rename_i hd; cases h; simp at hd; omega
    · cases h

theorem m113_loop (hex : Bool) (s : List UInt8) (hs : s.length ≤ 65536) (i n : Nat) (hi : i ≤ s.length) (hn : n ≤ 4294967295) :
    ∃ n' j : Nat, lpW (m113_l0 KK 0) ([.str s, .int .i64 0, .bool false, .int .i64 (baseOf hex : Nat), .int .i64 (n : Nat), .int .i64 (s.length : Nat), .int .i64 (i : Nat)], []) =
      some (match digitsVal hex (s.drop i) n with
        | some r => (.exit 0, [.str s, .int .i64 0, .bool false, .int .i64 (baseOf hex : Nat), .int .i64 (r : Nat), .int .i64 (s.length : Nat), .int .i64 (j : Nat)], [])
        | none => (.ret, [.str s, .int .i64 0, .bool false, .int .i64 (baseOf hex : Nat), .int .i64 (n' : Nat), .int .i64 (s.length : Nat), .int .i64 (j : Nat)], [])) := by
  induction hm : s.length - i using Nat.strongRecOn generalizing i n with
  | _ m ih =>
    rw [lpW_step]
    by_cases h : i < s.length
    · have hx : s[i]? = some s[i] := List.getElem?_eq_getElem h
      have h' : (i : Int) < s.length := by omega
      have hb : baseOf hex ≤ 16 := by cases hex <;> simp [baseOf]
      rw [List.drop_eq_getElem_cons h]
      cases hv : valueS hex s[i] with
      | none =>
        refine ⟨n, i, ?_⟩
        simp [m113_l0, h', hx, c173, hv, digitsVal, endR_zero]
      | some v =>
        have hvl := valueS_le hv
        have hprod : baseOf hex * n ≤ 16 * 4294967295 := Nat.mul_le_mul hb hn
        have w1 : IntKind.wrap .i64 ((baseOf hex : Int) * n) = (baseOf hex : Int) * n := by
          rw [wrap64]
          · have := Int.natCast_nonneg (baseOf hex * n); rw [Int.natCast_mul] at this; omega
          · have : ((baseOf hex * n : Nat) : Int) ≤ 16 * 4294967295 := by omega
            rw [Int.natCast_mul] at this; omega
        have w2 : IntKind.wrap .i64 ((baseOf hex : Int) * n + v) = (baseOf hex : Int) * n + v := by
          rw [wrap64]
          · have := Int.natCast_nonneg (baseOf hex * n); rw [Int.natCast_mul] at this; omega
          · have : ((baseOf hex * n : Nat) : Int) ≤ 16 * 4294967295 := by omega
            rw [Int.natCast_mul] at this; omega
        have w3 : IntKind.wrap .i64 ((i : Int) + 1) = (i : Int) + 1 := by rw [wrap64] <;> omega
        by_cases hbig : 4294967295 < baseOf hex * n + v
        · have hbig' : (4294967295 : Int) < (baseOf hex : Int) * n + v := by
            have : (4294967295 : Int) < ((baseOf hex * n + v : Nat) : Int) := by omega
            rwa [Int.natCast_add, Int.natCast_mul] at this
          refine ⟨baseOf hex * n + v, i, ?_⟩
          simp [m113_l0, h', hx, c173, hv, digitsVal, hbig, hbig', w1, w2, endR_zero]
        · have hbig' : ¬ (4294967295 : Int) < (baseOf hex : Int) * n + v := by
            have : ¬ (4294967295 : Int) < ((baseOf hex * n + v : Nat) : Int) := by omega
            rwa [Int.natCast_add, Int.natCast_mul] at this
          obtain ⟨n', j, hl⟩ := ih (s.length - (i + 1)) (by omega) (i + 1) (baseOf hex * n + v) (by omega) (by omega) rfl
          refine ⟨n', j, ?_⟩
          have step : m113_l0 KK 0 ([.str s, .int .i64 0, .bool false, .int .i64 (baseOf hex : Nat), .int .i64 (n : Nat), .int .i64 (s.length : Nat), .int .i64 (i : Nat)], []) =
              some (.normal, [.str s, .int .i64 0, .bool false, .int .i64 (baseOf hex : Nat), .int .i64 (baseOf hex * n + v : Nat), .int .i64 (s.length : Nat), .int .i64 (i + 1 : Nat)], []) := by
            simp [m113_l0, h', hx, c173, hv, hbig', w1, w2, w3, endR_zero]
          rw [step]
          simp only [Option.bind_some, thenDo_normal]
          rw [hl]
          simp only [digitsVal, hv, hbig, if_false]
    · have h' : ¬ (i : Int) < s.length := by omega
      have : s.drop i = [] := List.drop_eq_nil_of_le (by omega)
      refine ⟨n, i, ?_⟩
      simp [m113_l0, h', this, digitsVal, endR_zero]

/-- What a number's text is worth. -/
def numberS (s : List UInt8) : Option Nat :=
  if s.take 2 = [48, 120] then (if s.drop 2 = [] ∨ 8 < (s.drop 2).length then none else digitsVal true (s.drop 2) 0)
  else if s[0]? = some 48 ∧ s ≠ [48] then none else digitsVal false s 0

theorem c113 (s : List UInt8) (hs : s.length ≤ 65536) (h0 : s ≠ []) (h : Heap) : KK 113 [.str s] h = some (.ret (.tuple [.int .i64 ((numberS s).getD 0 : Nat), .bool (numberS s).isSome]), h) := by
  refine callP_pure rfl rfl (evW_by (m113_eq _ _ _) ?_)
  have cut := c172 s [48, 120] []
  by_cases hp : s.take 2 = [48, 120]
  · have hcp : cutPrefix s [48, 120] = (s.drop 2, true) := by simp [cutPrefix, hp]
    rw [hcp] at cut
    have hn : numberS s = if s.drop 2 = [] ∨ 8 < (s.drop 2).length then none else digitsVal true (s.drop 2) 0 := by simp only [numberS, hp, if_true]
    have hrl : (s.drop 2).length ≤ 65536 := by simp; omega
    rw [hn]
    simp only [] at cut
    generalize s.drop 2 = r at *
    by_cases he : r = []
    · subst he
      simp [m113, cut, finR_zero]
    · by_cases hl : 8 < r.length
      · have hl' : (8 : Int) < r.length := by omega
        simp [m113, cut, he, hl, hl', finR_zero]
      · have hl' : ¬ (8 : Int) < r.length := by omega
        obtain ⟨n', j, hloop⟩ := m113_loop true r hrl 0 0 (by omega) (by omega)
        simp only [baseOf, if_true, List.drop_zero, Int.ofNat_eq_natCast, Int.cast_ofNat_Int] at hloop
        cases hd : digitsVal true r 0 with
        | none => rw [hd] at hloop; simp [m113, cut, he, hl, hl', hloop, hd, finR_zero]
        | some v => rw [hd] at hloop; simp [m113, cut, he, hl, hl', hloop, hd, finR_zero]
  · have hcp : cutPrefix s [48, 120] = (s, false) := by simp [cutPrefix, hp]
    rw [hcp] at cut
    simp only [] at cut
    obtain ⟨b, r, hbr⟩ : ∃ b r, s = b :: r := by cases s with | nil => exact absurd rfl h0 | cons b r => exact ⟨b, r, rfl⟩
    have hs0 : s[0]? = some b := by rw [hbr]; rfl
    have hn : numberS s = if s[0]? = some 48 ∧ s ≠ [48] then none else digitsVal false s 0 := by simp only [numberS, hp, if_false]
    obtain ⟨n', j, hloop⟩ := m113_loop false s hs 0 0 (by omega) (by omega)
    simp only [baseOf, Bool.false_eq_true, if_false, List.drop_zero, Int.ofNat_eq_natCast, Int.cast_ofNat_Int] at hloop
    by_cases hb : b = 48
    · subst hb
      by_cases h1 : s = [48]
      · have hn2 : numberS s = digitsVal false s 0 := by rw [hn, if_neg (by simp [h1])]
        rw [hn2]
        have ht : ((48 : UInt8).toNat : Int) = 48 := rfl
        have hd : digitsVal false [48] 0 = some 0 := by decide
        subst h1
        rw [hd] at hloop ⊢
        simp only [List.length_cons, List.length_nil] at hloop
        simp at hloop
        simp [m113, cut, ht, hloop, finR_zero]
      · have hn2 : numberS s = none := by rw [hn, if_pos ⟨hs0, h1⟩]
        rw [hn2]
        have ht : ((48 : UInt8).toNat : Int) = 48 := rfl
        simp [m113, cut, hs0, h1, ht, finR_zero]
    · have hb' : ¬ ((b.toNat : Int) = 48) := fun h => hb (UInt8.toNat_inj.1 (by simpa using (by omega : b.toNat = 48)))
      have hn2 : numberS s = digitsVal false s 0 := by rw [hn, if_neg (by simp [hs0, hb])]
      rw [hn2]
      cases hd : digitsVal false s 0 with
      | none => rw [hd] at hloop; simp [m113, cut, hs0, hb', hloop, finR_zero]
      | some v => rw [hd] at hloop; simp [m113, cut, hs0, hb', hloop, finR_zero]

end Go.Proofs.YtkeoalhglkfbkaaDoor

/-
  The language's words and signs, as the program makes them. No conditions.
-/
namespace Go.Proofs.YtkeoalhglkfbkaaDoor
open Go Hk

def wordsT : List (List UInt8) := [[102, 110], [112, 117, 98], [115, 101, 99], [111, 117, 116], [108, 101, 116], [118, 97, 114], [105, 102], [101, 108, 115, 101], [102, 111, 114], [109, 97, 120], [114, 101, 116, 117, 114, 110], [117, 51, 50], [117, 56], [109, 97, 115, 107], [109, 117, 108, 104, 105], [99, 97, 114, 114, 121], [115, 101, 108, 101, 99, 116], [119, 111, 114, 100], [114, 111, 114]]
def signsT : List (List UInt8) := [[60, 60], [62, 62], [61, 61], [33, 61], [60, 61], [62, 61], [40], [41], [123], [125], [91], [93], [44], [59], [58], [61], [43], [45], [42], [38], [124], [94], [126], [33], [60], [62]]
/-- The map of words. -/
def wordsM : List (AVal × AVal) := (wordsT.zip (List.range' 1 19)).map fun p => (.str p.1, .int .i64 p.2)
def signsR : List (List AVal) := signsT.map fun t => [.str t]

set_option maxRecDepth 100000 in
theorem run53 : evF Tryd.prog ann (loopN 200) 3 53 [] [] = some (.ret (.slice signsR .no), []) := by kernel_rfl
theorem c53 (h : Heap) : KK 53 [] h = some (.ret (.slice signsR .no), h) := callP_pure rfl rfl (evW_run 200 3 53 [] [] _ run53)
set_option maxRecDepth 100000 in
theorem run52 : evF Tryd.prog ann (loopN 200) 3 52 [] [.front 0 0, .cells [.int .i64 0, .int .i64 0]] = some (.ret (.map 2), [.front 0 0, .cells [.int .i64 0, .int .i64 0], .map wordsM]) := by kernel_rfl
theorem c52 : KK 52 [] [.front 0 0, .cells [.int .i64 0, .int .i64 0]] = some (.ret (.map 2), [.front 0 0, .cells [.int .i64 0, .int .i64 0], .map wordsM]) := evW_run 200 3 52 [] _ _ run52
theorem wordsM_shut (m : Nat) : wordsM.all (fun e => e.2.shut1 m) = true := rfl

end Go.Proofs.YtkeoalhglkfbkaaDoor

/-
  The program takes one token. No conditions but on sizes.
-/
namespace Go.Proofs.YtkeoalhglkfbkaaDoor
open Go Hk

structure Token where
  kind : Nat
  pos : Nat
  num : Nat
  text : List UInt8
  deriving DecidableEq
def Token.cells (t : Token) : List AVal := [.int .i64 (t.kind : Int), .int .i64 (t.pos : Int), .int .i64 (t.num : Int), .str t.text]

/-- The first sign of the list that is there. -/
def signFrom (ts : List (List UInt8)) (l : List UInt8) : List UInt8 := (ts.find? fun x => decide (l.take x.length = x)).getD []

/-- The token at a place, and how many bytes it has. -/
def oneS (l : List UInt8) (at_ : Nat) : Option (Token × Nat) :=
  match l with
  | [] => none
  | b :: _ =>
    if isLetter b then (if 40 < (runOf l).length then none else some (⟨if runOf l ∈ wordsT then 3 else 1, at_, 0, runOf l⟩, (runOf l).length))
    else if isDigit b then (match numberS (runOf l) with | none => none | some n => some (⟨2, at_, n, []⟩, (runOf l).length))
    else if signFrom signsT l = [] then none else some (⟨4, at_, 0, signFrom signsT l⟩, (signFrom signsT l).length)

theorem afind_zip (r : List UInt8) : ∀ (ws : List (List UInt8)) (ns : List Nat), ws.length = ns.length →
    ∃ v : Option Int, afind (.str r) ((ws.zip ns).map fun p => (.str p.1, .int .i64 (p.2 : Int))) = some (v.map (.int .i64)) ∧ (v.isSome = true ↔ r ∈ ws)
  | [], [], _ => ⟨none, rfl, by simp⟩
  | w :: ws, n :: ns, hl => by
    obtain ⟨v, h1, h2⟩ := afind_zip r ws ns (by simpa using hl)
    by_cases h : r = w
    · subst h
      exact ⟨some n, by simp [afind, aeq1], by simp⟩
    · refine ⟨v, ?_, by simp [h, h2]⟩
      have hb : (r == w) = false := by simp [h]
      simp only [List.zip_cons_cons, List.map_cons, afind, aeq1, hb]
      exact h1
  | [], _ :: _, hl => by simp at hl
  | _ :: _, [], hl => by simp at hl

theorem lookup_word (r : List UInt8) : ∃ v : Int, ∀ {h : Heap}, h[2]? = some (.map wordsM) → alookup (.int .i64 0) true h (.map 2) (.str r) = some (.tuple [.int .i64 v, .bool (decide (r ∈ wordsT))]) := by
  obtain ⟨v, h1, h2⟩ := afind_zip r wordsT (List.range' 1 19) rfl
  refine ⟨v.getD 0, fun {h} hh => ?_⟩
  have h1' : afind (.str r) wordsM = some (v.map (.int .i64)) := h1
  simp only [alookup, getMap, hh, h1']
  cases v with
  | none =>
    have : ¬ r ∈ wordsT := fun hm => by have := h2.2 hm; simp at this
    simp [this]
  | some v =>
    have : r ∈ wordsT := h2.1 rfl
    simp [this]

theorem frSz_app (out : List (List AVal)) (c : List AVal) : frSz (out ++ [c]) = 4 := by cases out <;> rfl
theorem frSz_ok (out : List (List AVal)) : frSz out = 4 ∨ out = [] ∧ frSz out = 0 := by cases out <;> simp [frSz]

section
variable (s : List UInt8) (out : List (List AVal))

/-- The search for a sign. -/
theorem m55_loop (hs : s.length ≤ 65536) (at_ : Nat) (ha : at_ < s.length) (k p q : Int) (t : List UInt8) (i : Nat) (hi : i ≤ signsT.length) :
    ∃ j : Int, lpW (m55_l0 KK 6) ([.ptr 3 0, .bool false, .ptr 5 0, .slice (signsT.map fun t => [.str t]) .no, .int .i64 (signsT.length : Nat), .int .i64 (i : Nat)], HT wordsM signsR s (at_ : Nat) out k p q t) =
      some (.exit 1, [.ptr 3 0, .bool false, .ptr 5 0, .slice (signsT.map fun t => [.str t]) .no, .int .i64 (signsT.length : Nat), .int .i64 j],
        HT wordsM signsR s (at_ : Nat) out k p q (((signsT.drop i).find? fun x => decide ((s.drop at_).take x.length = x)).getD t)) := by
  have hd := drop_get ha
  have hsl : signsT.length = 26 := rfl
  have tr := fun t => trunc_HT (W := wordsM) (sg := signsR) (s := s) (at_ := (at_ : Nat)) (out := out) (k := k) (p := p) (n := q) (t := t) (wordsM_shut 6)
  generalize hW : wordsM = W at *
  generalize signsR = sg at *
  generalize hT : signsT = T at *
  induction hm : T.length - i using Nat.strongRecOn generalizing i with
  | _ m ih =>
    rw [lpW_step]
    by_cases h : i < T.length
    · have hx : T[i]? = some T[i] := List.getElem?_eq_getElem h
      have h' : (i : Int) < T.length := by omega
      have hf : (T.drop i).find? (fun x => decide ((s.drop at_).take x.length = x)) = if (s.drop at_).take T[i].length = T[i] then some T[i] else (T.drop (i + 1)).find? (fun x => decide ((s.drop at_).take x.length = x)) := by
        rw [List.drop_eq_getElem_cons h, List.find?_cons]
        by_cases hp : (s.drop at_).take T[i].length = T[i] <;> simp only [hp, decide_true, decide_false, if_true, if_false]
      rw [hf]
      by_cases hp : (s.drop at_).take T[i].length = T[i]
      · refine ⟨i, ?_⟩
        simp [m55_l0, HT, h', hx, hd, c108, hp, putCells, endR, tr, san1_ptr]
      · have w : IntKind.wrap .i64 ((i : Int) + 1) = (i : Int) + 1 := by rw [wrap64] <;> omega
        obtain ⟨j, hl⟩ := ih (T.length - (i + 1)) (by omega) (i + 1) (by omega) rfl
        refine ⟨j, ?_⟩
        have step : m55_l0 KK 6 ([.ptr 3 0, .bool false, .ptr 5 0, .slice (T.map fun t => [.str t]) .no, .int .i64 (T.length : Nat), .int .i64 (i : Nat)], HT W sg s (at_ : Nat) out k p q t) =
            some (.normal, [.ptr 3 0, .bool false, .ptr 5 0, .slice (T.map fun t => [.str t]) .no, .int .i64 (T.length : Nat), .int .i64 (i + 1 : Nat)], HT W sg s (at_ : Nat) out k p q t) := by
          simp [m55_l0, HT, h', hx, hd, c108, hp, w, endR, tr, san1_ptr]
        rw [step]
        simp only [Option.bind_some, thenDo_normal]
        rw [hl, if_neg hp]
    · have h' : ¬ (i : Int) < T.length := by omega
      have : T.drop i = [] := List.drop_eq_nil_of_le (by omega)
      refine ⟨i, ?_⟩
      simp [m55_l0, HT, h', this, endR, tr, san1_ptr]


/-- The end of 'token': the token is appended. -/
theorem trunc_tok {W : List (AVal × AVal)} {sg : List (List AVal)} {s : List UInt8} {at_ : Int} {out : List (List AVal)} {n sz : Nat} {bs : Heap} (hW : W.all (fun e => e.2.shut1 5) = true) :
    trunc 5 (.front 0 0 :: .cells [.int .i64 0, .int .i64 0] :: .map W :: .cells [.str s, .int .i64 at_, .map 2, .slice sg .no, .slice out (.own 4)] :: .front n sz :: bs) =
      some [.front 0 0, .cells [.int .i64 0, .int .i64 0], .map W, .cells [.str s, .int .i64 at_, .map 2, .slice sg .no, .slice out (.own 4)], .front n sz] := by
  simp [trunc, sanBlk, hW]

/-- One token. -/
theorem c55 (hs : s.length ≤ 65536) (at_ : Nat) (ha : at_ < s.length) (ho : out.length ≤ 65536) :
    KK 55 [.ptr 3 0] (HL wordsM signsR s (at_ : Nat) out) = some (match oneS (s.drop at_) at_ with
      | some (t, n) => (.ret (.bool true), HL wordsM signsR s (at_ + n : Nat) (out ++ [t.cells]))
      | none => (.ret (.bool false), HL wordsM signsR s (at_ : Nat) out)) := by
  refine evW_by (m55_eq _ _ _) ?_
  have hi : s[at_]? = some s[at_] := List.getElem?_eq_getElem ha
  have hcons := List.drop_eq_getElem_cons ha
  have hW4 := wordsM_shut 5
  have hW5 := wordsM_shut 6
  have hrun := fun k p q t => c111 wordsM signsR s out k p q t hW5 hs at_ (Nat.le_of_lt ha)
  have hrl := runOf_le (s.drop at_)
  simp only [List.length_drop] at hrl
  obtain ⟨v, hlook⟩ := lookup_word (runOf (s.drop at_))
  have hfr := frSz_ok out
  have hsz : ((out.length : Int) + 1) * 40 ≤ 140737488355328 := by omega
  have hone : oneS (s.drop at_) at_ = if isLetter s[at_] then (if 40 < (runOf (s.drop at_)).length then none else some (⟨if runOf (s.drop at_) ∈ wordsT then 3 else 1, at_, 0, runOf (s.drop at_)⟩, (runOf (s.drop at_)).length))
    else if isDigit s[at_] then (match numberS (runOf (s.drop at_)) with | none => none | some n => some (⟨2, at_, n, []⟩, (runOf (s.drop at_)).length))
    else if signFrom signsT (s.drop at_) = [] then none else some (⟨4, at_, 0, signFrom signsT (s.drop at_)⟩, (signFrom signsT (s.drop at_)).length) := by
    rw [hcons]; rfl
  rw [hone]
  generalize hW : wordsM = W at *
  generalize hsg : signsR = sg at *
  simp only [HT] at hrun
  generalize hR : runOf (s.drop at_) = r at *
  have hw : IntKind.wrap .i64 ((at_ : Int) + r.length) = (at_ : Int) + r.length := by rw [wrap64] <;> omega
  have happ : ∀ (a : Int) (c : List AVal) (hc : c.length = 4), aappend 4 40 [.front 0 0, .cells [.int .i64 0, .int .i64 0], .map W, .cells [.str s, .int .i64 a, .map 2, .slice sg .no, .slice out (.own 4)], .front out.length (frSz out), .cells c, .front 1 4] (.slice out (.own 4)) (.slice [c] (.own 6)) =
      some (.slice (out ++ [c]) (.own 4), [.front 0 0, .cells [.int .i64 0, .int .i64 0], .map W, .cells [.str s, .int .i64 a, .map 2, .slice sg .no, .slice out (.own 4)], .front (out.length + 1) 4, .cells c, .front 1 4]) := by
    intro a c hc
    have h1 : (out.length + 1) * 40 ≤ 140737488355328 := by omega
    have h2 : out.length + 1 ≤ 140737488355328 := by omega
    have h3 : frSz out = 4 ∨ out.length = 0 ∧ frSz out = 0 := by
      rcases hfr with h | ⟨h, h'⟩
      · exact .inl h
      · exact .inr ⟨by simp [h], h'⟩
    have hall : [c].all (fun r => r.length == 4) = true := by simp [hc]
    have hget : ([.front 0 0, .cells [.int .i64 0, .int .i64 0], .map W, .cells [.str s, .int .i64 a, .map 2, .slice sg .no, .slice out (.own 4)], .front out.length (frSz out), .cells c, .front 1 4] : Heap)[4]? = some (.front out.length (frSz out)) := rfl
    simp only [aappend, arowsS, hall, if_true, hget, List.length_cons, List.length_nil, Nat.zero_add, h1, h2, h3, and_self]
    rfl
  by_cases hl : isLetter s[at_] = true
  · by_cases h40 : 40 < r.length
    · have h40' : (40 : Int) < r.length := by omega
      by_cases hm : r ∈ wordsT
      · simp [m55, HL, hi, abuild, anew, tokCells, putCells, c110, hl, hrun, akeyFor, hlook, hm, h40, h40', finR, trunc_tok hW4]
      · simp [m55, HL, hi, abuild, anew, tokCells, putCells, c110, hl, hrun, akeyFor, hlook, hm, h40, h40', finR, trunc_tok hW4]
    · have h40' : ¬ (40 : Int) < r.length := by omega
      by_cases hm : r ∈ wordsT
      · have hap := happ ((at_ : Int) + r.length) [.int .i64 3, .int .i64 at_, .int .i64 0, .str r] rfl
        simp [m55, HL, hi, abuild, anew, tokCells, putCells, c110, hl, hrun, akeyFor, hlook, hm, h40, h40', hw, hide, hide1, lockIds, addrId, unhide, unhide1, abuildSlice, abuildRow, pureRow, AVal.pure1, rowsOf, hap, finR, trunc_tok hW4, Token.cells, frSz_app]
      · have hap := happ ((at_ : Int) + r.length) [.int .i64 1, .int .i64 at_, .int .i64 0, .str r] rfl
        simp [m55, HL, hi, abuild, anew, tokCells, putCells, c110, hl, hrun, akeyFor, hlook, hm, h40, h40', hw, hide, hide1, lockIds, addrId, unhide, unhide1, abuildSlice, abuildRow, pureRow, AVal.pure1, rowsOf, hap, finR, trunc_tok hW4, Token.cells, frSz_app]
  · have hlf : isLetter s[at_] = false := by simpa using hl
    by_cases hd : isDigit s[at_] = true
    · have hr0 : r ≠ [] := by
        rw [← hR, runOf_cons ha]; simp [isWord, hd]
      have hnum := c113 r (by omega) hr0
      cases hn : numberS r with
      | none =>
        rw [hn] at hnum
        simp at hnum
        simp [m55, HL, hi, abuild, anew, tokCells, putCells, c110, hlf, c112, hd, hrun, hnum, finR, trunc_tok hW4]
      | some n =>
        rw [hn] at hnum
        simp at hnum
        have hap := happ ((at_ : Int) + r.length) [.int .i64 2, .int .i64 at_, .int .i64 n, .str []] rfl
        simp [m55, HL, hi, abuild, anew, tokCells, putCells, c110, hlf, c112, hd, hrun, hnum, hw, hide, hide1, lockIds, addrId, unhide, unhide1, abuildSlice, abuildRow, pureRow, AVal.pure1, rowsOf, hap, finR, trunc_tok hW4, Token.cells, frSz_app]
    · have hdf : isDigit s[at_] = false := by simpa using hd
      obtain ⟨j, hloop⟩ := m55_loop s out hs at_ ha 4 at_ 0 [] 0 (Nat.zero_le _)
      rw [hW, hsg] at hloop
      have hsl : signsT.length = 26 := rfl
      have hsgm : sg = signsT.map fun t => [.str t] := by rw [← hsg]; rfl
      rw [← hsgm] at hloop
      have hsglen : sg.length = 26 := by rw [hsgm]; rfl
      simp only [List.drop_zero, hsl, HT, Int.ofNat_eq_natCast, Int.cast_ofNat_Int] at hloop
      generalize hx : signFrom signsT (s.drop at_) = x at *
      have hx' : ((signsT.find? fun x => decide ((s.drop at_).take x.length = x)).getD []) = x := hx
      rw [hx'] at hloop
      have hxl : x.length ≤ 65536 := by
        rw [← hx]
        unfold signFrom
        cases hf : signsT.find? fun x => decide ((s.drop at_).take x.length = x) with
        | none => simp
        | some y =>
          have := List.find?_some hf
          simp only [decide_eq_true_eq] at this
          have := congrArg List.length this
          simp at this ⊢
          omega
      have hwx : IntKind.wrap .i64 ((at_ : Int) + x.length) = (at_ : Int) + x.length := by rw [wrap64] <;> omega
      by_cases hx0 : x = []
      · simp [m55, HL, hi, abuild, anew, tokCells, putCells, c110, hlf, c112, hdf, hsglen, hloop, hx0, finR, trunc_tok hW4]
      · have hap := happ ((at_ : Int) + x.length) [.int .i64 4, .int .i64 at_, .int .i64 0, .str x] rfl
        simp [m55, HL, hi, abuild, anew, tokCells, putCells, c110, hlf, c112, hdf, hsglen, hloop, hx0, hwx, hide, hide1, lockIds, addrId, unhide, unhide1, abuildSlice, abuildRow, pureRow, AVal.pure1, rowsOf, hap, finR, trunc_tok hW4, Token.cells, frSz_app]

end
end Go.Proofs.YtkeoalhglkfbkaaDoor

/-
  The program's tokens of a text, as a plain function. No conditions.
-/
namespace Go.Proofs.YtkeoalhglkfbkaaDoor
open Go Hk

theorem oneS_pos {l : List UInt8} {a n : Nat} {t : Token} (h : oneS l a = some (t, n)) : 1 ≤ n ∧ n ≤ l.length := by
  unfold oneS at h
  split at h
  · cases h
  · rename_i b r
    have hrl := runOf_le (b :: r)
    split at h
    · rename_i hl
      split at h
      · cases h
      · simp only [Option.some.injEq, Prod.mk.injEq] at h
        obtain ⟨_, rfl⟩ := h
        refine ⟨?_, hrl⟩
        simp [runOf, List.takeWhile_cons, isWord, hl]
    · split at h
      · rename_i hl hd
        split at h
        · cases h
        · simp only [Option.some.injEq, Prod.mk.injEq] at h
          obtain ⟨_, rfl⟩ := h
          refine ⟨?_, hrl⟩
          simp [runOf, List.takeWhile_cons, isWord, hd]
      · split at h
        · cases h
        · rename_i hx
          simp only [Option.some.injEq, Prod.mk.injEq] at h
          obtain ⟨_, rfl⟩ := h
          refine ⟨List.length_pos_iff.2 hx, ?_⟩
          unfold signFrom
          cases hf : signsT.find? fun x => decide ((b :: r).take x.length = x) with
          | none => simp
          | some y =>
            have := List.find?_some hf
            simp only [decide_eq_true_eq] at this
            have := congrArg List.length this
            simp only [List.length_take] at this
            simp only [Option.getD_some]
            omega

/-- The tokens from a place on, behind those that are there; else an error's number, and its place. -/
def lexFrom (s : List UInt8) (at_ : Nat) (out : List Token) : List Token × Nat × Nat :=
  if h : skipTo s at_ < s.length then
    match oneS (s.drop (skipTo s at_)) (skipTo s at_) with
    | none => ([], 9, skipTo s at_)
    | some (t, n) => lexFrom s (skipTo s at_ + max 1 n) (out ++ [t])
  else (out ++ [⟨0, s.length, 0, []⟩], 0, 0)
termination_by s.length - at_
decreasing_by
  have := skipTo_ge s at_
  omega
def lexS (s : List UInt8) : List Token × Nat × Nat := if 65536 < s.length then ([], 5, 0) else lexFrom s 0 []

/-- The memory behind the loop. -/
def HE (W : List (AVal × AVal)) (sg : List (List AVal)) (s : List UInt8) (e p : Int) (at_ : Int) (out : List (List AVal)) (n sz : Nat) : Heap :=
  [.front 0 0, .cells [.int .i64 e, .int .i64 p], .map W, .cells [.str s, .int .i64 at_, .map 2, .slice sg .no, .slice out (.own 4)], .front n sz]

theorem trunc_E {W : List (AVal × AVal)} {sg : List (List AVal)} {s : List UInt8} {e p at_ : Int} {out : List (List AVal)} {n sz : Nat} {bs : Heap} (hW : W.all (fun e => e.2.shut1 5) = true) :
    trunc 5 (.front 0 0 :: .cells [.int .i64 e, .int .i64 p] :: .map W :: .cells [.str s, .int .i64 at_, .map 2, .slice sg .no, .slice out (.own 4)] :: .front n sz :: bs) =
      some (HE W sg s e p at_ out n sz) := by
  simp [HE, trunc, sanBlk, hW]

/-- The loop of Lex. -/
theorem m20_loop (s : List UInt8) (hs : s.length ≤ 65536) (at_ : Nat) (ha : at_ ≤ s.length) (out : List Token) (ho : out.length ≤ at_) (t0 : AVal) (ht0 : t0 = .slice [] (.own 0)) :
    ∃ (tok : Tok) (at' : Int) (out' : List (List AVal)) (n sz : Nat), lpW (m20_l0 KK 5) ([.str s, t0, .ptr 1 0, .ptr 3 0], HL wordsM signsR s (at_ : Nat) (out.map Token.cells)) =
      some (.ret, [.str s, .slice ((lexFrom s at_ out).1.map Token.cells) tok, .ptr 1 0, .ptr 3 0], HE wordsM signsR s (lexFrom s at_ out).2.1 (lexFrom s at_ out).2.2 at' out' n sz) := by
  have hW5 := wordsM_shut 5
  induction hn : s.length - at_ using Nat.strongRecOn generalizing at_ out with
  | _ n ih =>
    rw [lpW_step]
    have hge := skipTo_ge s at_
    have hle := skipTo_le s at_ ha
    have h54 := c54 wordsM signsR s (out.map Token.cells) hW5 hs at_ ha
    rw [lexFrom]
    by_cases h : skipTo s at_ < s.length
    · have hne : ¬ ((skipTo s at_ : Int) = s.length) := by omega
      have h55 := c55 s (out.map Token.cells) hs (skipTo s at_) h (by simp; omega)
      simp only [h, dite_true]
      cases hone : oneS (s.drop (skipTo s at_)) (skipTo s at_) with
      | none =>
        rw [hone] at h55
        refine ⟨.no, (skipTo s at_ : Nat), out.map Token.cells, (out.map Token.cells).length, frSz (out.map Token.cells), ?_⟩
        generalize wordsM = W at *
        generalize signsR = sg at *
        simp only [HL, List.length_map] at h54 h55
        simp only [HL]
        simp [m20_l0, h54, h55, hne, abuild, putCells, hide, hide1, lockIds, addrId, unhide, unhide1, endR, trunc_E hW5, san1_ptr]
      | some tn =>
        obtain ⟨t, k⟩ := tn
        rw [hone] at h55
        obtain ⟨hk1, hk2⟩ := oneS_pos hone
        simp only [List.length_drop] at hk2
        have hmax : max 1 k = k := by omega
        have step : m20_l0 KK 5 ([.str s, t0, .ptr 1 0, .ptr 3 0], HL wordsM signsR s (at_ : Nat) (out.map Token.cells)) =
            some (.normal, [.str s, t0, .ptr 1 0, .ptr 3 0], HL wordsM signsR s (skipTo s at_ + k : Nat) ((out ++ [t]).map Token.cells)) := by
          subst ht0
          generalize wordsM = W at *
          generalize signsR = sg at *
          simp only [HL, List.length_map] at h54 h55
          simp only [HL]
          simp [m20_l0, h54, h55, hne, endR, trunc_E hW5, san1_ptr, HE]
        rw [step]
        simp only [Option.bind_some, thenDo_normal, hmax]
        exact ih (s.length - (skipTo s at_ + k)) (by omega) (skipTo s at_ + k) (by omega) (out ++ [t]) (by simp; omega) rfl
    · have heq : skipTo s at_ = s.length := by omega
      simp only [h, dite_false]
      refine ⟨.own 4, (s.length : Nat), out.map Token.cells, out.length + 1, 4, ?_⟩
      have h1 : (out.length + 1) * 40 ≤ 140737488355328 := by omega
      have h2 : out.length + 1 ≤ 140737488355328 := by omega
      have h3 : frSz (out.map Token.cells) = 4 ∨ (out.map Token.cells).length = 0 ∧ frSz (out.map Token.cells) = 0 := by cases out <;> simp [frSz]
      rw [heq] at h54
      generalize hm : out.map Token.cells = o at *
      have hol : o.length = out.length := by rw [← hm]; simp
      generalize wordsM = W at *
      generalize signsR = sg at *
      simp only [HL] at h54
      simp only [HL]
      have hap : aappend 4 40 [.front 0 0, .cells [.int .i64 0, .int .i64 0], .map W, .cells [.str s, .int .i64 (s.length : Nat), .map 2, .slice sg .no, .slice o (.own 4)], .front o.length (frSz o), .front 1 4] (.slice o (.own 4)) (.slice [[.int .i64 0, .int .i64 (s.length : Nat), .int .i64 0, .str []]] (.own 5)) =
          some (.slice (o ++ [[.int .i64 0, .int .i64 (s.length : Nat), .int .i64 0, .str []]]) (.own 4), [.front 0 0, .cells [.int .i64 0, .int .i64 0], .map W, .cells [.str s, .int .i64 (s.length : Nat), .map 2, .slice sg .no, .slice o (.own 4)], .front (o.length + 1) 4, .front 1 4]) := by
        have hget : ([.front 0 0, .cells [.int .i64 0, .int .i64 0], .map W, .cells [.str s, .int .i64 (s.length : Nat), .map 2, .slice sg .no, .slice o (.own 4)], .front o.length (frSz o), .front 1 4] : Heap)[4]? = some (.front o.length (frSz o)) := rfl
        have hall : ([[.int .i64 0, .int .i64 (s.length : Nat), .int .i64 0, .str []]] : List (List AVal)).all (fun r => r.length == 4) = true := rfl
        have h1' : (o.length + 1) * 40 ≤ 140737488355328 := by omega
        have h2' : o.length + 1 ≤ 140737488355328 := by omega
        simp only [aappend, arowsS, hall, if_true, hget, List.length_cons, List.length_nil, Nat.zero_add, h1', h2', h3, and_self]
        rfl
      simp [m20_l0, h54, abuild, putCells, abuildSlice, abuildRow, pureRow, AVal.pure1, rowsOf, hap, endR, trunc_E hW5, san1_ptr]
      simp [HE, Token.cells, ← hm]

/-- THE PROGRAM's LEXER. -/
theorem c20 (s : List UInt8) (h : Heap) : KK 20 [.str s] h = some (.ret (.tuple [.slice ((lexS s).1.map Token.cells) .no, .agg [.int .i64 ((lexS s).2.1 : Nat), .int .i64 ((lexS s).2.2 : Nat)]]), h) := by
  refine callP_pure rfl rfl (evW_by (m20_eq _ _ _) ?_)
  by_cases hs : 65536 < s.length
  · have hs' : (65536 : Int) < s.length := by omega
    simp [m20, anew, tokCells, abuild, putCells, hs', lexS, hs, finR_zero]
  · have hs' : ¬ (65536 : Int) < s.length := by omega
    obtain ⟨tok, at', out', n, sz, hl⟩ := m20_loop s (by omega) 0 (Nat.zero_le _) [] (Nat.zero_le _) _ rfl
    have hlex : lexS s = lexFrom s 0 [] := by simp [lexS, hs]
    rw [hlex]
    have h52 := c52
    have h53 := c53
    generalize wordsM = W at *
    generalize signsR = sg at *
    simp only [HL, HE, List.map_nil, Int.ofNat_eq_natCast, Int.cast_ofNat_Int, List.length_nil, frSz] at hl
    simp [m20, anew, tokCells, abuild, putCells, hs', h52, h53, hl, finR_zero]
    cases tok <;> rfl

end Go.Proofs.YtkeoalhglkfbkaaDoor

/-
  The document's lexer: where the next token begins; words and signs in a list. No conditions but on sizes.
-/
namespace Go.Proofs.YtkeoalhglkfbkaaDoor
open Go Hk

theorem lineLen_cons {s : List UInt8} {n : Nat} (h : n < s.length) : lineLen (s.drop n) = if s[n] = 10 then 0 else lineLen (s.drop (n + 1)) + 1 := by
  rw [List.drop_eq_getElem_cons h]; simp only [lineLen, List.takeWhile_cons]
  by_cases hb : s[n] = 10 <;> simp [hb]

theorem byte_eq (b : UInt8) (n : Nat) (hn : n < 256) : ((b.toNat : Int) = n) ↔ b = UInt8.ofNat n := by
  constructor
  · intro h
    have : b.toNat = n := by omega
    rw [← this]; simp
  · intro h
    subst h
    simp; omega

theorem m56_line (s : List UInt8) (hs : s.length ≤ 65536) (n : Nat) (hn : n ≤ s.length) (x : Int) :
    lpW (m56_l0 KK 0) ([.str s, .int .i64 (n : Nat), .int .i64 x], []) = some (.exit 2, [.str s, .int .i64 (n + lineLen (s.drop n) : Nat), .int .i64 x], []) := by
  induction hm : s.length - n using Nat.strongRecOn generalizing n with
  | _ m ih =>
    rw [lpW_step]
    by_cases h : n < s.length
    · have hi : s[n]? = some s[n] := List.getElem?_eq_getElem h
      have h' : (n : Int) < s.length := by omega
      have hb := byte_eq s[n] 10 (by omega)
      rw [lineLen_cons h]
      by_cases hc : s[n] = 10
      · have hb' : (s[n].toNat : Int) = 10 := hb.2 hc
        simp [m56_l0, h', hi, hb', hc, endR_zero]
      · have hb' : ¬ (s[n].toNat : Int) = 10 := fun e => hc (hb.1 e)
        have w : IntKind.wrap .i64 ((n : Int) + 1) = (n : Int) + 1 := by rw [wrap64] <;> omega
        have step : m56_l0 KK 0 ([.str s, .int .i64 (n : Nat), .int .i64 x], []) = some (.normal, [.str s, .int .i64 (n + 1 : Nat), .int .i64 x], []) := by
          simp [m56_l0, h', hi, hb', w, endR_zero]
        rw [step]
        simp only [Option.bind_some, thenDo_normal]
        rw [ih (s.length - (n + 1)) (by omega) (n + 1) (by omega) rfl, if_neg hc]
        rw [show n + 1 + lineLen (s.drop (n + 1)) = n + (lineLen (s.drop (n + 1)) + 1) by omega]
    · have h' : ¬ (n : Int) < s.length := by omega
      have : s.drop n = [] := List.drop_eq_nil_of_le (by omega)
      simp [m56_l0, h', this, lineLen, endR_zero]

theorem take_two {s : List UInt8} {n : Nat} (h : n < s.length) : (s.drop n).take 2 = [47, 47] ↔ s[n] = 47 ∧ s[n + 1]? = some 47 := by
  rw [List.drop_eq_getElem_cons h]
  by_cases h2 : n + 1 < s.length
  · rw [List.drop_eq_getElem_cons h2, List.take_succ_cons, List.take_succ_cons, List.take_zero, List.getElem?_eq_getElem h2]
    simp only [List.cons.injEq, and_true, Option.some.injEq]
  · rw [List.drop_eq_nil_of_le (by omega), List.getElem?_eq_none (show s.length ≤ n + 1 by omega)]; simp

theorem m56_loop (s : List UInt8) (hs : s.length ≤ 65536) (at_ : Nat) (ha : at_ ≤ s.length) :
    lpW (m56_l1 KK 0) ([.str s, .int .i64 (at_ : Nat), .int .i64 0], []) = some (.ret, [.str s, .int .i64 (skipTo s at_ : Nat), .int .i64 (skipTo s at_ : Nat)], []) ∨
    lpW (m56_l1 KK 0) ([.str s, .int .i64 (at_ : Nat), .int .i64 0], []) = some (.exit 0, [.str s, .int .i64 (skipTo s at_ : Nat), .int .i64 0], []) := by
  induction hm : s.length - at_ using Nat.strongRecOn generalizing at_ with
  | _ m ih =>
    rw [lpW_step, skipTo]
    by_cases h : at_ < s.length
    · have hi : s[at_]? = some s[at_] := List.getElem?_eq_getElem h
      have h' : (at_ : Int) < s.length := by omega
      have w : IntKind.wrap .i64 ((at_ : Int) + 1) = ((at_ + 1 : Nat) : Int) := by rw [wrap64] <;> omega
      have hb := byte_eq s[at_] 47 (by omega)
      have t2 := take_two h
      by_cases hr : (s.drop at_).take 2 = [47, 47]
      · obtain ⟨e1, e2⟩ := t2.1 hr
        have h2 : at_ + 1 < s.length := by
          have := (List.getElem?_eq_some_iff.1 e2).1; exact this
        have h2' : ((at_ + 1 : Nat) : Int) < s.length := by omega
        have e1' : (s[at_].toNat : Int) = 47 := hb.2 e1
        have hbl : isBlank s[at_] = false := by rw [e1]; decide
        have hline := m56_line s hs at_ ha 0
        have hll := lineLen_le (s.drop at_)
        have htw := line_two hr
        simp only [List.length_drop] at hll
        have step : m56_l1 KK 0 ([.str s, .int .i64 (at_ : Nat), .int .i64 0], []) = some (.normal, [.str s, .int .i64 (at_ + lineLen (s.drop at_) : Nat), .int .i64 0], []) := by
          have hi2 : aindexStr (.str s) (.int .i64 ((at_ : Int) + 1)) = some (.int .u8 47) := by
            have := aindexStr_nat (s := s) (k := .i64) (i := at_ + 1)
            rw [e2] at this; simpa using this
          simp only [Int.natCast_add, Int.cast_ofNat_Int] at w h2'
          simp [m56_l1, h', w, h2', hi, e1', hi2, hline, endR_zero]
        rw [step]
        simp only [Option.bind_some, thenDo_normal, h, dite_true, hbl, Bool.false_eq_true, if_false, hr, if_true]
        rw [show max 1 (lineLen (s.drop at_)) = lineLen (s.drop at_) by omega]
        exact ih (s.length - (at_ + lineLen (s.drop at_))) (by omega) (at_ + lineLen (s.drop at_)) (by omega) rfl
      · -- no remark
        have body : m56_l1 KK 0 ([.str s, .int .i64 (at_ : Nat), .int .i64 0], []) = if isBlank s[at_] then some (.normal, [.str s, .int .i64 (at_ + 1 : Nat), .int .i64 0], []) else some (.ret, [.str s, .int .i64 (at_ : Nat), .int .i64 (at_ : Nat)], []) := by
          simp only [Int.natCast_add, Int.cast_ofNat_Int] at w
          by_cases h2 : at_ + 1 < s.length
          · have h2' : ((at_ : Int) + 1) < s.length := by omega
            by_cases e1 : s[at_] = 47
            · have e1' : (s[at_].toNat : Int) = 47 := hb.2 e1
              have e2 : ¬ s[at_ + 1] = 47 := fun e => hr (t2.2 ⟨e1, by rw [List.getElem?_eq_getElem h2, e]⟩)
              have e2' : ¬ (s[at_ + 1].toNat : Int) = 47 := fun e => e2 ((byte_eq s[at_ + 1] 47 (by omega)).1 e)
              have hi2 : aindexStr (.str s) (.int .i64 ((at_ : Int) + 1)) = some (by8 s[at_ + 1]) := by
                have := aindexStr_nat (s := s) (k := .i64) (i := at_ + 1)
                rw [List.getElem?_eq_getElem h2] at this; simpa using this
              have hbl : isBlank s[at_] = false := by rw [e1]; decide
              have c47 : ∀ h, KK 114 [.int .u8 47] h = some (.ret (.bool false), h) := fun h => c114 47 h
              simp [m56_l1, h', w, h2', hi, e1', hi2, e2', c47, hbl, endR_zero]
            · have e1' : ¬ (s[at_].toNat : Int) = 47 := fun e => e1 (hb.1 e)
              cases hbl : isBlank s[at_] <;> simp [m56_l1, h', w, h2', hi, e1', c114, hbl, endR_zero]
          · have h2' : ¬ ((at_ : Int) + 1) < s.length := by omega
            cases hbl : isBlank s[at_] <;> simp [m56_l1, h', w, h2', hi, c114, hbl, endR_zero]
        rw [body]
        simp only [h, dite_true, hr, if_false]
        cases hbl : isBlank s[at_] with
        | true =>
          simp only [if_true, Option.bind_some, thenDo_normal]
          exact ih (s.length - (at_ + 1)) (by omega) (at_ + 1) (by omega) rfl
        | false => left; simp
    · right
      have h' : ¬ (at_ : Int) < s.length := by omega
      simp [m56_l1, h', h, endR_zero]

theorem c56 (s : List UInt8) (hs : s.length ≤ 65536) (at_ : Nat) (ha : at_ ≤ s.length) (h : Heap) : KK 56 [.str s, .int .i64 (at_ : Nat)] h = some (.ret (.int .i64 (skipTo s at_ : Nat)), h) := by
  refine callP_pure rfl rfl (evW_by (m56_eq _ _ _ _) ?_)
  simp only [m56, List.length_nil]
  rcases m56_loop s hs at_ ha with hl | hl <;> rw [hl] <;> simp [finR_zero]

/-! ### Lists between blanks -/

/-- Is t somewhere in l? -/
def inB (t : List UInt8) : List UInt8 → Bool
  | [] => t.isPrefixOf []
  | b :: l => t.isPrefixOf (b :: l) || inB t l

def joinB : List (List UInt8) → List UInt8
  | [] => [32]
  | w :: ws => 32 :: (w ++ joinB ws)

theorem prefix_eq : ∀ (r w : List UInt8) (J : List UInt8), 32 ∉ r → 32 ∉ w → ((r ++ [32]).isPrefixOf (w ++ 32 :: J) = decide (r = w))
  | [], [], J, _, _ => by simp
  | [], b :: w, J, _, hw => by
    have : ¬ (32 : UInt8) = b := fun e => hw (by simp [e])
    simp [List.isPrefixOf, this]
  | a :: r, [], J, hr, _ => by
    have : ¬ a = (32 : UInt8) := fun e => hr (by simp [e])
    simp [List.isPrefixOf, this]
  | a :: r, b :: w, J, hr, hw => by
    have ih := prefix_eq r w J (fun h => hr (by simp [h])) (fun h => hw (by simp [h]))
    by_cases hab : a = b
    · subst hab; simp [List.isPrefixOf, ih]
    · simp [List.isPrefixOf, hab]

theorem joinB_cons (ws : List (List UInt8)) : ∃ J, joinB ws = 32 :: J := by cases ws <;> exact ⟨_, rfl⟩

theorem inB_skip (t : List UInt8) : ∀ (w J : List UInt8), 32 ∉ w → inB (32 :: t) (w ++ J) = inB (32 :: t) J
  | [], J, _ => rfl
  | b :: w, J, hw => by
    have : ¬ (32 : UInt8) = b := fun e => hw (by simp [e])
    have hb : ((32 : UInt8) == b) = false := by simp [this]
    simp only [List.cons_append, inB, List.isPrefixOf, hb, Bool.false_and, Bool.false_or]
    exact inB_skip t w J (fun h => hw (by simp [h]))

theorem inB_join (r : List UInt8) (hr : 32 ∉ r) : ∀ (ws : List (List UInt8)), (∀ w ∈ ws, 32 ∉ w) → inB (32 :: (r ++ [32])) (joinB ws) = decide (r ∈ ws)
  | [], _ => by cases r <;> simp [joinB, inB, List.isPrefixOf]
  | w :: ws, hw => by
    obtain ⟨J, hJ⟩ := joinB_cons ws
    have ih := inB_join r hr ws (fun w h => hw w (by simp [h]))
    have hp := prefix_eq r w J hr (hw w (by simp))
    simp only [joinB, inB, List.isPrefixOf, beq_self_eq_true, Bool.true_and]
    rw [inB_skip _ w _ (hw w (by simp)), ih, hJ, hp]
    simp [List.mem_cons]

theorem inB_cons (t q : List UInt8) (b : UInt8) (r : List UInt8) (h : q = b :: r) : inB t q = (t.isPrefixOf q || inB t r) := by subst h; rfl

/-- The document's search in a list. -/
theorem m119_loop (l t : List UInt8) (hl : l.length ≤ 65536) (ht : t.length ≤ 131072) (h1 : 1 ≤ t.length) (i : Nat) (hi : i ≤ l.length) :
    (inB t (l.drop i) = true ∧ ∃ j : Int, lpW (m119_l0 KK 0) ([.str l, .bool false, .str t, .int .i64 (i : Nat)], []) = some (.ret, [.str l, .bool true, .str t, .int .i64 j], [])) ∨
    (inB t (l.drop i) = false ∧ ∃ j : Int, lpW (m119_l0 KK 0) ([.str l, .bool false, .str t, .int .i64 (i : Nat)], []) = some (.exit 0, [.str l, .bool false, .str t, .int .i64 j], [])) := by
  induction hm : l.length - i using Nat.strongRecOn generalizing i with
  | _ m ih =>
    rw [lpW_step]
    have w1 : IntKind.wrap .i64 ((i : Int) + t.length) = ((i + t.length : Nat) : Int) := by rw [wrap64] <;> omega
    have w2 : IntKind.wrap .i64 ((i : Int) + 1) = (i : Int) + 1 := by rw [wrap64] <;> omega
    by_cases h : i + t.length ≤ l.length
    · have h' : ((i + t.length : Nat) : Int) ≤ l.length := by omega
      have hsl := asliceStr_nat (s := l) (lo := some (.int .i64 (i : Int))) (hi := some (.int .i64 ((i + t.length : Nat) : Int))) abound_nat abound_nat (by omega) h
      rw [show i + t.length - i = t.length by omega] at hsl
      have hil : i < l.length := by omega
      have hcons := List.drop_eq_getElem_cons hil
      have hpre : t.isPrefixOf (l.drop i) = decide ((l.drop i).take t.length = t) := by
        rw [Bool.eq_iff_iff]
        simp only [List.isPrefixOf_iff_prefix, decide_eq_true_eq]
        constructor
        · intro hp; exact (List.prefix_iff_eq_take.1 hp).symm
        · intro hp; exact List.prefix_iff_eq_take.2 hp.symm
      simp only [Int.natCast_add] at w1 h' hsl
      by_cases hp : (l.drop i).take t.length = t
      · left
        refine ⟨?_, i, ?_⟩
        · rw [inB_cons t _ _ _ hcons, hpre, decide_eq_true hp]; rfl
        · simp [m119_l0, w1, h', hsl, hp, endR_zero]
      · have hin : inB t (l.drop i) = inB t (l.drop (i + 1)) := by
          rw [inB_cons t _ _ _ hcons, hpre, decide_eq_false hp]; rfl
        have step : m119_l0 KK 0 ([.str l, .bool false, .str t, .int .i64 (i : Nat)], []) = some (.normal, [.str l, .bool false, .str t, .int .i64 (i + 1 : Nat)], []) := by
          simp [m119_l0, w1, w2, h', hsl, hp, endR_zero]
        rw [step, hin]
        simp only [Option.bind_some, thenDo_normal]
        exact ih (l.length - (i + 1)) (by omega) (i + 1) (by omega) rfl
    · right
      have h' : ¬ ((i : Int) + t.length) ≤ l.length := by omega
      simp only [Int.natCast_add] at w1
      refine ⟨?_, i, ?_⟩
      · have : ∀ (q : List UInt8), q.length < t.length → inB t q = false := by
          intro q
          induction q with
          | nil => intro hq; cases t with | nil => simp at h1 | cons a b => rfl
          | cons b q ihq =>
            intro hq
            have hnp : t.isPrefixOf (b :: q) = false := by
              rw [Bool.eq_false_iff]
              intro hp
              have := (List.isPrefixOf_iff_prefix.1 hp).length_le
              omega
            simp only [inB, hnp, Bool.false_or]
            exact ihq (by simp at hq; omega)
        exact this _ (by simp; omega)
      · simp [m119_l0, w1, h', endR_zero]

theorem c119 (l s : List UInt8) (hl : l.length ≤ 65536) (hs : s.length ≤ 65536) (h : Heap) : KK 119 [.str l, .str s] h = some (.ret (.bool (inB (32 :: (s ++ [32])) l)), h) := by
  refine callP_pure rfl rfl (evW_by (m119_eq _ _ _ _) ?_)
  have e1 : 1 + s.length ≤ 4611686018427387904 := by omega
  have e2 : s.length + 1 + 1 ≤ 4611686018427387904 := by omega
  have hloop := m119_loop l (32 :: (s ++ [32])) hl (by simp; omega) (by simp) 0 (Nat.zero_le _)
  simp only [List.drop_zero, Int.ofNat_eq_natCast, Int.cast_ofNat_Int] at hloop
  rcases hloop with ⟨hi, j, hlp⟩ | ⟨hi, j, hlp⟩
  · rw [hi]; simp [m119, e1, e2, hlp, finR_zero]
  · rw [hi]; simp [m119, e1, e2, hlp, finR_zero]

end Go.Proofs.YtkeoalhglkfbkaaDoor

/-
  The document's numbers. No conditions but on sizes.
-/
namespace Go.Proofs.YtkeoalhglkfbkaaDoor
open Go Hk

def digitsRaw (hex : Bool) : List UInt8 → Nat → Option Nat
  | [], n => some n
  | b :: r, n => match valueS hex b with
    | none => none
    | some v => digitsRaw hex r (n * baseOf hex + v)

theorem raw_ge (hex : Bool) : ∀ (l : List UInt8) (n r : Nat), digitsRaw hex l n = some r → n * baseOf hex ^ l.length ≤ r
  | [], n, r, h => by simp [digitsRaw] at h; simp [h]
  | b :: l, n, r, h => by
    simp only [digitsRaw] at h
    cases hv : valueS hex b with
    | none => rw [hv] at h; cases h
    | some v =>
      rw [hv] at h
      have := raw_ge hex l _ r h
      rw [List.length_cons, Nat.pow_succ, Nat.mul_comm (baseOf hex ^ l.length), ← Nat.mul_assoc]
      exact Nat.le_trans (Nat.mul_le_mul_right _ (Nat.le_add_right _ _)) this

theorem base_pos (hex : Bool) (k : Nat) : 1 ≤ baseOf hex ^ k := Nat.one_le_pow _ _ (by cases hex <;> decide)

theorem val_raw (hex : Bool) : ∀ (l : List UInt8) (n : Nat), n ≤ 4294967295 → digitsVal hex l n = match digitsRaw hex l n with | some r => if r ≤ 4294967295 then some r else none | none => none
  | [], n, h => by simp [digitsVal, digitsRaw, h]
  | b :: l, n, h => by
    simp only [digitsVal, digitsRaw]
    cases hv : valueS hex b with
    | none => rfl
    | some v =>
      simp only []
      rw [Nat.mul_comm (baseOf hex) n]
      by_cases hb : 4294967295 < n * baseOf hex + v
      · rw [if_pos hb]
        cases hr : digitsRaw hex l (n * baseOf hex + v) with
        | none => rfl
        | some r =>
          have := raw_ge hex l _ r hr
          have h1 := base_pos hex l.length
          have : n * baseOf hex + v ≤ r := Nat.le_trans (Nat.le_mul_of_pos_right _ h1) this
          simp only []
          rw [if_neg (by omega)]
      · rw [if_neg hb]
        exact val_raw hex l _ (by omega)

theorem valueS_lt {hex : Bool} {b : UInt8} {v : Nat} (h : valueS hex b = some v) : v + 1 ≤ baseOf hex := by
  unfold valueS at h
  split at h
  · rename_i hd; cases h; simp [isDigit] at hd; cases hex <;> simp [baseOf] <;> omega
  · split at h
    · rename_i hd; cases h; simp at hd; obtain ⟨h1, h2, h3⟩ := hd; subst h1; simp [baseOf]; omega
    · cases h

theorem m118_loop (hex : Bool) (s : List UInt8) (hs : s.length ≤ 65536) (i n : Nat) (hi : i ≤ s.length) (hb : (n + 1) * baseOf hex ^ (s.length - i) ≤ 2199023255552) :
    ∃ (n' j : Int), lpW (m118_l0 KK 0) ([.str s, .int .i64 0, .int .i64 (baseOf hex : Nat), .int .i64 (n : Nat), .int .i64 (i : Nat)], []) =
      some (match digitsRaw hex (s.drop i) n with
        | some r => (.exit 0, [.str s, .int .i64 0, .int .i64 (baseOf hex : Nat), .int .i64 (r : Nat), .int .i64 j], [])
        | none => (.ret, [.str s, .int .i64 (-1), .int .i64 (baseOf hex : Nat), .int .i64 n', .int .i64 j], [])) := by
  induction hm : s.length - i using Nat.strongRecOn generalizing i n with
  | _ m ih =>
    rw [lpW_step]
    by_cases h : i < s.length
    · have hx : s[i]? = some s[i] := List.getElem?_eq_getElem h
      have h' : (i : Int) < s.length := by omega
      have hdrop := List.drop_eq_getElem_cons h
      rw [hdrop]
      generalize hc : s[i] = b at *
      have hb8 := u8_lt b
      have e1 : ((97 : Int) ≤ b.toNat) ↔ 97 ≤ b.toNat := by omega
      have e2 : ((b.toNat : Int) ≤ 102) ↔ b.toNat ≤ 102 := by omega
      have w0 : IntKind.wrap .i64 (b.toNat : Int) = b.toNat := by rw [wrap64] <;> omega
      have w1 : IntKind.wrap .i64 ((b.toNat : Int) - 48) = (b.toNat : Int) - 48 := by rw [wrap64] <;> omega
      have w2 : IntKind.wrap .i64 ((b.toNat : Int) - 97) = (b.toNat : Int) - 97 := by rw [wrap64] <;> omega
      have w3 : IntKind.wrap .i64 ((b.toNat : Int) - 97 + 10) = (b.toNat : Int) - 97 + 10 := by rw [wrap64] <;> omega
      have wi : IntKind.wrap .i64 ((i : Int) + 1) = (i : Int) + 1 := by rw [wrap64] <;> omega
      cases hv : valueS hex b with
      | none =>
        refine ⟨n, i, ?_⟩
        have hd : isDigit b = false := by
          cases hd : isDigit b with
          | false => rfl
          | true => simp [valueS, hd] at hv
        simp only [digitsRaw, hv]
        cases hex with
        | true =>
          by_cases h1 : 97 ≤ b.toNat <;> by_cases h2 : b.toNat ≤ 102
          · simp [valueS, hd, h1, h2] at hv
          all_goals simp [m118_l0, h', hx, w0, w1, c116, hd, e1, e2, h1, h2, baseOf, endR_zero]
        | false =>
          by_cases h1 : 97 ≤ b.toNat <;> by_cases h2 : b.toNat ≤ 102 <;> simp [m118_l0, h', hx, w0, w1, c116, hd, e1, e2, h1, h2, baseOf, endR_zero]
      | some v =>
        have hvl := valueS_lt hv
        have hpow : baseOf hex ^ (s.length - i) = baseOf hex ^ (s.length - (i + 1)) * baseOf hex := by rw [← Nat.pow_succ]; congr 1; omega
        have hb2 : (n * baseOf hex + v + 1) * baseOf hex ^ (s.length - (i + 1)) ≤ 2199023255552 := by
          refine Nat.le_trans ?_ hb
          rw [hpow, Nat.mul_comm (baseOf hex ^ _) (baseOf hex), ← Nat.mul_assoc, Nat.add_mul n 1, Nat.one_mul]
          exact Nat.mul_le_mul_right _ (by omega)
        have hsmall : n * baseOf hex + v + 1 ≤ 2199023255552 := Nat.le_trans (Nat.le_mul_of_pos_right _ (base_pos hex _)) hb2
        have hmul0 : (0 : Int) ≤ (n : Int) * (baseOf hex : Nat) := by have := Int.natCast_nonneg (n * baseOf hex); rwa [Int.natCast_mul] at this
        have hmul1 : (n : Int) * (baseOf hex : Nat) + v + 1 ≤ 2199023255552 := by
          have : ((n * baseOf hex + v + 1 : Nat) : Int) ≤ 2199023255552 := by omega
          simpa [Int.natCast_add, Int.natCast_mul] using this
        have w4 : IntKind.wrap .i64 ((n : Int) * (baseOf hex : Nat)) = (n : Int) * (baseOf hex : Nat) := by rw [wrap64] <;> omega
        have w5 : IntKind.wrap .i64 ((n : Int) * (baseOf hex : Nat) + v) = (n : Int) * (baseOf hex : Nat) + v := by rw [wrap64] <;> omega
        obtain ⟨n', j, hl⟩ := ih (s.length - (i + 1)) (by omega) (i + 1) (n * baseOf hex + v) (by omega) hb2 rfl
        refine ⟨n', j, ?_⟩
        have step : m118_l0 KK 0 ([.str s, .int .i64 0, .int .i64 (baseOf hex : Nat), .int .i64 (n : Nat), .int .i64 (i : Nat)], []) =
            some (.normal, [.str s, .int .i64 0, .int .i64 (baseOf hex : Nat), .int .i64 (n * baseOf hex + v : Nat), .int .i64 (i + 1 : Nat)], []) := by
          cases hd : isDigit b with
          | true =>
            have hr : 48 ≤ b.toNat ∧ b.toNat ≤ 57 := by simpa [isDigit] using hd
            have hvv : v = b.toNat - 48 := by simp [valueS, hd] at hv; exact hv.symm
            have hvi : (b.toNat : Int) - 48 = v := by omega
            rw [hvi] at w1
            have h1 : ¬ 97 ≤ b.toNat := by omega
            simp [m118_l0, h', hx, w0, hvi, w1, c116, hd, e1, h1, w4, w5, wi, endR_zero]
          | false =>
            cases hex with
            | false => simp [valueS, hd] at hv
            | true =>
              by_cases h1 : 97 ≤ b.toNat
              · by_cases h2 : b.toNat ≤ 102
                · have hvv : v = b.toNat - 87 := by simp [valueS, hd, h1, h2] at hv; exact hv.symm
                  have hvi : (b.toNat : Int) - 97 + 10 = v := by omega
                  rw [hvi] at w3
                  simp only [baseOf, if_true, Int.cast_ofNat_Int] at w4 w5
                  simp [m118_l0, h', hx, w0, w1, w2, hvi, w3, e1, e2, h1, h2, baseOf, w4, w5, wi, endR_zero]
                · simp [valueS, hd, h1, h2] at hv
              · simp [valueS, hd, h1] at hv
        rw [step]
        simp only [Option.bind_some, thenDo_normal]
        rw [hl]
        simp only [digitsRaw, hv]
    · have h' : ¬ (i : Int) < s.length := by omega
      have : s.drop i = [] := List.drop_eq_nil_of_le (by omega)
      refine ⟨n, i, ?_⟩
      simp [m118_l0, h', this, digitsRaw, endR_zero]

def numI (s : List UInt8) : Int := match numberS s with | some n => n | none => -1

theorem c118 (s : List UInt8) (hs : s.length ≤ 65536) (h0 : s ≠ []) (h : Heap) : KK 118 [.str s] h = some (.ret (.int .i64 (numI s)), h) := by
  refine callP_pure rfl rfl (evW_by (m118_eq _ _ _) ?_)
  by_cases hp : s.take 2 = [48, 120]
  · have hl2 : 2 ≤ s.length := by have := congrArg List.length hp; simp at this; omega
    have hl2' : (2 : Int) ≤ s.length := by omega
    have s1 := asliceStr_nat (s := s) (lo := none) (hi := some (.int .i64 ((2 : Nat) : Int))) abound_none abound_nat (by omega) hl2
    have s2 := asliceStr_nat (s := s) (lo := some (.int .i64 ((2 : Nat) : Int))) (hi := none) abound_nat abound_none hl2 (Nat.le_refl _)
    have e : (s.drop 2).take (s.length - 2) = s.drop 2 := List.take_of_length_le (by simp)
    rw [e] at s2
    simp only [Int.cast_ofNat_Int, List.drop_zero, Nat.sub_zero, hp] at s1 s2
    have hn : numberS s = if s.drop 2 = [] ∨ 8 < (s.drop 2).length then none else digitsVal true (s.drop 2) 0 := by simp only [numberS, hp, if_true]
    have hrl : (s.drop 2).length ≤ 65536 := by simp; omega
    unfold numI
    rw [hn]
    generalize s.drop 2 = r at *
    by_cases hl : 8 < r.length
    · have hl' : (8 : Int) < r.length := by omega
      simp [m118, hl2', s1, s2, hl, hl', finR_zero]
    · have hl' : ¬ (8 : Int) < r.length := by omega
      by_cases he : r = []
      · subst he
        simp [m118, hl2', s1, s2, finR_zero]
      · have hpw : (0 + 1) * baseOf true ^ (r.length - 0) ≤ 2199023255552 := by
          have : baseOf true ^ r.length ≤ 16 ^ 8 := Nat.pow_le_pow_right (by decide) (by omega)
          simp only [Nat.sub_zero, Nat.zero_add, Nat.one_mul]; omega
        obtain ⟨n', j, hloop⟩ := m118_loop true r hrl 0 0 (Nat.zero_le _) hpw
        simp only [baseOf, if_true, List.drop_zero, Int.ofNat_eq_natCast, Int.cast_ofNat_Int] at hloop
        rw [if_neg (by simp [he, hl]), val_raw true r 0 (by omega)]
        cases hd : digitsRaw true r 0 with
        | none => rw [hd] at hloop; simp [m118, hl2', s1, s2, he, hl', hloop, finR_zero]
        | some v =>
          rw [hd] at hloop
          by_cases hv : v ≤ 4294967295
          · have hv' : ¬ (4294967296 : Int) ≤ v := by omega
            simp [m118, hl2', s1, s2, he, hl', hloop, hv, hv', finR_zero]
          · have hv' : (4294967296 : Int) ≤ v := by omega
            simp [m118, hl2', s1, s2, he, hl', hloop, hv, hv', finR_zero]
  · -- no '0x' ahead: the test of the first two bytes fails, whatever the length
    have hn : numberS s = if s[0]? = some 48 ∧ s ≠ [48] then none else digitsVal false s 0 := by simp only [numberS, hp, if_false]
    obtain ⟨b, r, hbr⟩ : ∃ b r, s = b :: r := by cases s with | nil => exact absurd rfl h0 | cons b r => exact ⟨b, r, rfl⟩
    have hs0 : s[0]? = some b := by rw [hbr]; rfl
    have hlen : s.length = r.length + 1 := by rw [hbr]; rfl
    have ht : ((48 : UInt8).toNat : Int) = 48 := rfl
    have hb48 : ((b.toNat : Int) = 48) ↔ b = 48 := by
      constructor
      · intro h; exact UInt8.toNat_inj.1 (by simpa using (by omega : b.toNat = 48))
      · intro h; rw [h]; rfl
    unfold numI
    rw [hn]
    -- both ways through the test
    have key : ∀ (X : Option (Res × Heap)), (∀ (hten : 10 < s.length ∨ (1 < s.length ∧ b = 48)), X = some (.ret (.int .i64 (-1)), [])) →
        (∀ (hten : ¬ (10 < s.length ∨ (1 < s.length ∧ b = 48))), X = some (.ret (.int .i64 (match digitsVal false s 0 with | some n => (n : Int) | none => -1)), [])) →
        X = some (.ret (.int .i64 (match (if s[0]? = some 48 ∧ s ≠ [48] then none else digitsVal false s 0) with | some n => (n : Int) | none => -1)), []) := by
      intro X h1 h2
      by_cases hten : 10 < s.length ∨ (1 < s.length ∧ b = 48)
      · rw [h1 hten]
        by_cases hz : s[0]? = some 48 ∧ s ≠ [48]
        · rw [if_pos hz]
        · rw [if_neg hz]
          have hb : b ≠ 48 := by
            intro hb
            refine hz ⟨by rw [hs0, hb], fun e => ?_⟩
            rw [e] at hten
            simp at hten
          have h10 : 10 < s.length := by
            rcases hten with h | ⟨_, h⟩
            · exact h
            · exact absurd h hb
          have : digitsVal false s 0 = none := by
            rw [val_raw false s 0 (by omega)]
            cases hr : digitsRaw false s 0 with
            | none => rfl
            | some v =>
              rw [hbr] at hr
              simp only [digitsRaw] at hr
              cases hv : valueS false b with
              | none => rw [hv] at hr; cases hr
              | some d =>
                rw [hv] at hr
                have hd : isDigit b = true := by
                  cases hd : isDigit b with
                  | true => rfl
                  | false => simp [valueS, hd] at hv
                have hdr : 48 ≤ b.toNat ∧ b.toNat ≤ 57 := by simpa [isDigit] using hd
                have hdv : d = b.toNat - 48 := by simp [valueS, hd] at hv; exact hv.symm
                have hb' : b.toNat ≠ 48 := fun e => hb (hb48.1 (by omega))
                have hge := raw_ge false r _ v hr
                have hp10 : (10 : Nat) ^ 10 ≤ 10 ^ r.length := Nat.pow_le_pow_right (by decide) (by omega)
                have h1d : 1 ≤ 0 * baseOf false + d := by omega
                have : 1 * 10 ^ r.length ≤ (0 * baseOf false + d) * baseOf false ^ r.length := Nat.mul_le_mul_right _ h1d
                simp only []
                rw [if_neg (by omega)]
          rw [this]
      · rw [h2 hten]
        by_cases hz : s[0]? = some 48 ∧ s ≠ [48]
        · exfalso
          obtain ⟨z1, z2⟩ := hz
          rw [hs0] at z1
          cases z1
          refine hten (.inr ⟨?_, rfl⟩)
          cases r with
          | nil => exact absurd hbr z2
          | cons c r => rw [hlen]; simp
        · rw [if_neg hz]
    refine key _ (fun hten => ?_) (fun hten => ?_)
    · by_cases hl2 : 2 ≤ s.length
      · have hl2' : (2 : Int) ≤ s.length := by omega
        have s1 := asliceStr_nat (s := s) (lo := none) (hi := some (.int .i64 ((2 : Nat) : Int))) abound_none abound_nat (by omega) hl2
        simp only [Int.cast_ofNat_Int, List.drop_zero, Nat.sub_zero] at s1
        by_cases h10 : 10 < s.length
        · have h10' : (10 : Int) < s.length := by omega
          simp [m118, hl2', s1, hp, h10', finR_zero]
        · have h10' : ¬ (10 : Int) < s.length := by omega
          have hb := (hten.resolve_left h10).2
          have h1' : (1 : Int) < s.length := by omega
          have hbt := hb48.2 hb
          simp [m118, hl2', s1, hp, h10', h1', hs0, hbt, finR_zero]
      · omega
    · have h10' : ¬ (10 : Int) < s.length := by omega
      have hpw : (0 + 1) * baseOf false ^ (s.length - 0) ≤ 2199023255552 := by
        have : baseOf false ^ s.length ≤ 10 ^ 10 := Nat.pow_le_pow_right (by decide) (by omega)
        simp only [Nat.sub_zero, Nat.zero_add, Nat.one_mul]; omega
      obtain ⟨n', j, hloop⟩ := m118_loop false s hs 0 0 (Nat.zero_le _) hpw
      simp only [baseOf, Bool.false_eq_true, if_false, List.drop_zero, Int.ofNat_eq_natCast, Int.cast_ofNat_Int] at hloop
      rw [val_raw false s 0 (by omega)]
      -- ahead of the loop
      have ahead : ∀ v, digitsRaw false s 0 = v → m118 KK (.str s) [] = some (.ret (.int .i64 (match (match v with | some r => if r ≤ 4294967295 then some r else none | none => none) with | some n => (n : Int) | none => -1)), []) := by
        intro v hv
        rw [hv] at hloop
        have fin : ∀ (r : Nat), (4294967296 : Int) ≤ r ∨ ¬ (4294967296 : Int) ≤ r := fun r => Classical.em _
        by_cases hl2 : 2 ≤ s.length
        · have hl2' : (2 : Int) ≤ s.length := by omega
          have s1 := asliceStr_nat (s := s) (lo := none) (hi := some (.int .i64 ((2 : Nat) : Int))) abound_none abound_nat (by omega) hl2
          simp only [Int.cast_ofNat_Int, List.drop_zero, Nat.sub_zero] at s1
          have h1' : (1 : Int) < s.length := by omega
          have hbt : ¬ ((b.toNat : Int) = 48) := fun e => hten (.inr ⟨by omega, hb48.1 e⟩)
          cases v with
          | none => simp [m118, hl2', s1, hp, h10', h1', hs0, hbt, h0, hloop, finR_zero]
          | some r =>
            by_cases hv : r ≤ 4294967295
            · have hv' : ¬ (4294967296 : Int) ≤ r := by omega
              simp [m118, hl2', s1, hp, h10', h1', hs0, hbt, h0, hloop, hv, hv', finR_zero]
            · have hv' : (4294967296 : Int) ≤ r := by omega
              simp [m118, hl2', s1, hp, h10', h1', hs0, hbt, h0, hloop, hv, hv', finR_zero]
        · have hl2' : ¬ (2 : Int) ≤ s.length := by omega
          have h1' : ¬ (1 : Int) < s.length := by omega
          cases v with
          | none => simp [m118, hl2', h10', h1', h0, hloop, finR_zero]
          | some r =>
            by_cases hv : r ≤ 4294967295
            · have hv' : ¬ (4294967296 : Int) ≤ r := by omega
              simp [m118, hl2', h10', h1', h0, hloop, hv, hv', finR_zero]
            · have hv' : (4294967296 : Int) ≤ r := by omega
              simp [m118, hl2', h10', h1', h0, hloop, hv, hv', finR_zero]
      exact ahead _ rfl

end Go.Proofs.YtkeoalhglkfbkaaDoor

/-
  The document's signs and tokens. No conditions but on sizes.
-/
namespace Go.Proofs.YtkeoalhglkfbkaaDoor
open Go Hk

def twosT : List (List UInt8) := signsT.take 6
def onesT : List (List UInt8) := signsT.drop 6
def list2 : List UInt8 := [32, 60, 60, 32, 62, 62, 32, 61, 61, 32, 33, 61, 32, 60, 61, 32, 62, 61, 32]
def list1 : List UInt8 := [32, 40, 32, 41, 32, 123, 32, 125, 32, 91, 32, 93, 32, 44, 32, 59, 32, 58, 32, 61, 32, 43, 32, 45, 32, 42, 32, 38, 32, 124, 32, 94, 32, 126, 32, 33, 32, 60, 32, 62, 32]
def listW : List UInt8 := [32, 102, 110, 32, 112, 117, 98, 32, 115, 101, 99, 32, 111, 117, 116, 32, 108, 101, 116, 32, 118, 97, 114, 32, 105, 102, 32, 101, 108, 115, 101, 32, 102, 111, 114, 32, 109, 97, 120, 32, 114, 101, 116, 117, 114, 110, 32, 117, 51, 50, 32, 117, 56, 32, 109, 97, 115, 107, 32, 109, 117, 108, 104, 105, 32, 99, 97, 114, 114, 121, 32, 115, 101, 108, 101, 99, 116, 32, 119, 111, 114, 100, 32, 114, 111, 114, 32]

theorem list2_join : list2 = joinB twosT := by decide
theorem list1_join : list1 = joinB onesT := by decide
theorem listW_join : listW = joinB wordsT := by decide

theorem in_two (a b : UInt8) (ha : a ≠ 32) : inB (32 :: ([a, b] ++ [32])) list2 = decide ([a, b] ∈ twosT) := by
  by_cases hb : b = 32
  · subst hb
    have h1 : inB (32 :: ([a, 32] ++ [32])) list2 = false := by simp [inB, list2, List.isPrefixOf]
    have h2 : ¬ [a, 32] ∈ twosT := by simp [twosT, signsT]
    rw [h1, decide_eq_false h2]
  · rw [list2_join]
    refine inB_join [a, b] (by simp [Ne.symm ha, Ne.symm hb]) twosT (by decide)
theorem in_one (a : UInt8) (ha : a ≠ 32) : inB (32 :: ([a] ++ [32])) list1 = decide ([a] ∈ onesT) := by
  rw [list1_join]
  exact inB_join [a] (by simp [Ne.symm ha]) onesT (by decide)
theorem in_word (r : List UInt8) (hr : 32 ∉ r) : inB (32 :: (r ++ [32])) listW = decide (r ∈ wordsT) := by
  rw [listW_join]
  exact inB_join r hr wordsT (by decide)

theorem find_len (l : List UInt8) (k : Nat) : ∀ (T : List (List UInt8)), (∀ x ∈ T, x.length = k) → T.find? (fun x => decide (l.take x.length = x)) = if l.take k ∈ T then some (l.take k) else none
  | [], _ => by simp
  | x :: T, h => by
    have hx := h x (by simp)
    have ih := find_len l k T (fun y hy => h y (by simp [hy]))
    rw [List.find?_cons, hx]
    by_cases he : l.take k = x
    · simp [he]
    · simp only [he, decide_false, ih, List.mem_cons, false_or]

theorem signFrom_eq (l : List UInt8) : signFrom signsT l = if l.take 2 ∈ twosT then l.take 2 else if l.take 1 ∈ onesT then l.take 1 else [] := by
  have h2 := find_len l 2 twosT (by decide)
  have h1 := find_len l 1 onesT (by decide)
  have hs : signsT = twosT ++ onesT := by decide
  unfold signFrom
  rw [hs, List.find?_append, h2, h1]
  by_cases e2 : l.take 2 ∈ twosT <;> by_cases e1 : l.take 1 ∈ onesT <;> simp [e2, e1]

theorem c119_2 (s : List UInt8) (hs : s.length ≤ 65536) (h : Heap) : KK 119 [.str [32, 60, 60, 32, 62, 62, 32, 61, 61, 32, 33, 61, 32, 60, 61, 32, 62, 61, 32], .str s] h = some (.ret (.bool (inB (32 :: (s ++ [32])) list2)), h) := c119 list2 s (by decide) hs h
theorem c119_1 (s : List UInt8) (hs : s.length ≤ 65536) (h : Heap) : KK 119 [.str [32, 40, 32, 41, 32, 123, 32, 125, 32, 91, 32, 93, 32, 44, 32, 59, 32, 58, 32, 61, 32, 43, 32, 45, 32, 42, 32, 38, 32, 124, 32, 94, 32, 126, 32, 33, 32, 60, 32, 62, 32], .str s] h = some (.ret (.bool (inB (32 :: (s ++ [32])) list1)), h) := c119 list1 s (by decide) hs h
theorem c119_W (s : List UInt8) (hs : s.length ≤ 65536) (h : Heap) : KK 119 [.str listW, .str s] h = some (.ret (.bool (inB (32 :: (s ++ [32])) listW)), h) := c119 listW s (by decide) hs h

/-- The longest sign at a place. -/
theorem c117 (s : List UInt8) (hs : s.length ≤ 65536) (at_ : Nat) (ha : at_ < s.length) (hb : s[at_] ≠ 32) (h : Heap) : KK 117 [.str s, .int .i64 (at_ : Nat)] h = some (.ret (.str (signFrom signsT (s.drop at_))), h) := by
  refine callP_pure rfl rfl (evW_by (m117_eq _ _ _ _) ?_)
  rw [signFrom_eq]
  have w2 : IntKind.wrap .i64 ((at_ : Int) + 2) = ((at_ + 2 : Nat) : Int) := by rw [wrap64] <;> omega
  have w1 : IntKind.wrap .i64 ((at_ : Int) + 1) = ((at_ + 1 : Nat) : Int) := by rw [wrap64] <;> omega
  have s1 := asliceStr_nat (s := s) (lo := some (.int .i64 (at_ : Int))) (hi := some (.int .i64 ((at_ + 1 : Nat) : Int))) abound_nat abound_nat (by omega) (by omega)
  rw [show at_ + 1 - at_ = 1 by omega] at s1
  have t1 : (s.drop at_).take 1 = [s[at_]] := by rw [List.drop_eq_getElem_cons ha]; rfl
  have i1 := in_one s[at_] hb
  rw [← t1] at i1
  have l1 : ((s.drop at_).take 1).length ≤ 65536 := by rw [t1]; simp
  by_cases h2 : at_ + 2 ≤ s.length
  · have h2' : ((at_ + 2 : Nat) : Int) ≤ s.length := by omega
    have s2 := asliceStr_nat (s := s) (lo := some (.int .i64 (at_ : Int))) (hi := some (.int .i64 ((at_ + 2 : Nat) : Int))) abound_nat abound_nat (by omega) h2
    rw [show at_ + 2 - at_ = 2 by omega] at s2
    have h3 : at_ + 1 < s.length := by omega
    have t2 : (s.drop at_).take 2 = [s[at_], s[at_ + 1]] := by rw [List.drop_eq_getElem_cons ha, List.drop_eq_getElem_cons h3]; rfl
    have i2 := in_two s[at_] s[at_ + 1] hb
    rw [← t2] at i2
    have l2 : ((s.drop at_).take 2).length ≤ 65536 := by rw [t2]; simp
    generalize (s.drop at_).take 2 = x2 at *
    generalize (s.drop at_).take 1 = x1 at *
    simp only [Int.natCast_add, Int.cast_ofNat_Int] at w1 w2 s1 s2 h2'
    by_cases e2 : x2 ∈ twosT
    · simp [m117, w1, w2, h2', s2, c119_2 _ l2, i2, e2, finR_zero]
    · by_cases e1 : x1 ∈ onesT
      · simp [m117, w1, w2, h2', s1, s2, c119_2 _ l2, i2, e2, c119_1 _ l1, i1, e1, finR_zero]
      · simp [m117, w1, w2, h2', s1, s2, c119_2 _ l2, i2, e2, c119_1 _ l1, i1, e1, finR_zero]
  · have h2' : ¬ ((at_ + 2 : Nat) : Int) ≤ s.length := by omega
    have e2 : ¬ (s.drop at_).take 2 ∈ twosT := by
      have hlen : ((s.drop at_).take 2).length = 1 := by simp; omega
      intro hm
      have : ∀ x ∈ twosT, x.length = 2 := by decide
      have := this _ hm
      omega
    rw [if_neg e2]
    generalize (s.drop at_).take 1 = x1 at *
    simp only [Int.natCast_add, Int.cast_ofNat_Int] at w1 w2 s1 h2'
    by_cases e1 : x1 ∈ onesT
    · simp [m117, w1, w2, h2', s1, c119_1 _ l1, i1, e1, finR_zero]
    · simp [m117, w1, w2, h2', s1, c119_1 _ l1, i1, e1, finR_zero]

/-! ### One token -/

def H2 (k p q : Int) (t : List UInt8) : Heap := [.cells [.int .i64 0, .int .i64 0, .int .i64 0, .str []], .cells [.int .i64 k, .int .i64 p, .int .i64 q, .str t]]
theorem trunc_H2 {k p q : Int} {t : List UInt8} : trunc 2 [.cells [.int .i64 0, .int .i64 0, .int .i64 0, .str []], .cells [.int .i64 k, .int .i64 p, .int .i64 q, .str t]] =
    some [.cells [.int .i64 0, .int .i64 0, .int .i64 0, .str []], .cells [.int .i64 k, .int .i64 p, .int .i64 q, .str t]] := by simp [trunc]

theorem m57_loop (s : List UInt8) (hs : s.length ≤ 65536) (at_ n : Nat) (hn : n ≤ s.length) (k p q : Int) (t : List UInt8) :
    lpW (m57_l0 KK 2) ([.str s, .int .i64 (at_ : Nat), .ptr 0 0, .int .i64 0, .ptr 1 0, .int .i64 (n : Nat)], H2 k p q t) =
      some (.exit 0, [.str s, .int .i64 (at_ : Nat), .ptr 0 0, .int .i64 0, .ptr 1 0, .int .i64 (n + (runOf (s.drop n)).length : Nat)], H2 k p q t) := by
  induction hm : s.length - n using Nat.strongRecOn generalizing n with
  | _ m ih =>
    rw [lpW_step]
    by_cases h : n < s.length
    · have hi : s[n]? = some s[n] := List.getElem?_eq_getElem h
      have h' : (n : Int) < s.length := by omega
      by_cases hw : isWord s[n] = true
      · have w : IntKind.wrap .i64 ((n : Int) + 1) = (n : Int) + 1 := by rw [wrap64] <;> omega
        have step : m57_l0 KK 2 ([.str s, .int .i64 (at_ : Nat), .ptr 0 0, .int .i64 0, .ptr 1 0, .int .i64 (n : Nat)], H2 k p q t) =
            some (.normal, [.str s, .int .i64 (at_ : Nat), .ptr 0 0, .int .i64 0, .ptr 1 0, .int .i64 (n + 1 : Nat)], H2 k p q t) := by
          cases hl : isLetter s[n] <;> cases hd : isDigit s[n] <;> simp [isWord, hl, hd] at hw <;>
            simp [m57_l0, H2, h', hi, c115, c116, hl, hd, w, endR, trunc_H2, san1_ptr]
        rw [step]
        simp only [Option.bind_some, thenDo_normal]
        rw [ih (s.length - (n + 1)) (by omega) (n + 1) (by omega) rfl, runOf_cons h, hw]
        simp; omega
      · have hwf : isWord s[n] = false := by simpa using hw
        have hl : isLetter s[n] = false := by simp [isWord] at hwf; exact hwf.1
        have hd : isDigit s[n] = false := by simp [isWord] at hwf; exact hwf.2
        rw [runOf_cons h, hwf]
        simp [m57_l0, H2, h', hi, c115, c116, hl, hd, endR, trunc_H2, san1_ptr]
    · have h' : ¬ (n : Int) < s.length := by omega
      have : s.drop n = [] := List.drop_eq_nil_of_le (by omega)
      simp [m57_l0, H2, h', this, runOf, endR, trunc_H2, san1_ptr]

theorem run_words (l : List UInt8) : ∀ b ∈ runOf l, isWord b = true := by
  unfold runOf
  induction l with
  | nil => simp
  | cons c l ih =>
    intro b hb
    by_cases hc : isWord c = true
    · rw [List.takeWhile_cons, hc] at hb
      rcases List.mem_cons.1 hb with rfl | hb
      · exact hc
      · exact ih b hb
    · rw [List.takeWhile_cons] at hb; simp [hc] at hb
theorem run_no_blank (l : List UInt8) : (32 : UInt8) ∉ runOf l := fun h => by
  have := run_words l 32 h
  simp [isWord, isLetter, isDigit] at this

theorem digit_no_letter {b : UInt8} (h : isDigit b = true) : isLetter b = false := by
  simp [isDigit] at h
  simp [isLetter]
  omega

/-- The token at a place; 0 bytes: there is none. -/
theorem c57 (s : List UInt8) (hs : s.length ≤ 65536) (at_ : Nat) (ha : at_ < s.length) (hb : s[at_] ≠ 32) :
    ∃ (k p q : Int) (t : List UInt8) (n : Nat), (∀ h, KK 57 [.str s, .int .i64 (at_ : Nat)] h = some (.ret (.tuple [.agg [.int .i64 k, .int .i64 p, .int .i64 q, .str t], .int .i64 (n : Nat)]), h)) ∧
      match oneS (s.drop at_) at_ with
      | some (u, m) => [AVal.int .i64 k, .int .i64 p, .int .i64 q, .str t] = u.cells ∧ n = m
      | none => n = 0 := by
  have hi : s[at_]? = some s[at_] := List.getElem?_eq_getElem ha
  have hcons := List.drop_eq_getElem_cons ha
  have hrl := runOf_le (s.drop at_)
  simp only [List.length_drop] at hrl
  have hone : oneS (s.drop at_) at_ = if isLetter s[at_] then (if 40 < (runOf (s.drop at_)).length then none else some (⟨if runOf (s.drop at_) ∈ wordsT then 3 else 1, at_, 0, runOf (s.drop at_)⟩, (runOf (s.drop at_)).length))
    else if isDigit s[at_] then (match numberS (runOf (s.drop at_)) with | none => none | some n => some (⟨2, at_, n, []⟩, (runOf (s.drop at_)).length))
    else if signFrom signsT (s.drop at_) = [] then none else some (⟨4, at_, 0, signFrom signsT (s.drop at_)⟩, (signFrom signsT (s.drop at_)).length) := by
    rw [hcons]; rfl
  rw [hone]
  have hloop := fun k p q t => m57_loop s hs at_ at_ (Nat.le_of_lt ha) k p q t
  have hsl := asliceStr_nat (s := s) (lo := some (.int .i64 (at_ : Int))) (hi := some (.int .i64 ((at_ + (runOf (s.drop at_)).length : Nat) : Int))) abound_nat abound_nat (by omega) (by omega)
  rw [show at_ + (runOf (s.drop at_)).length - at_ = (runOf (s.drop at_)).length by omega, take_run] at hsl
  have hW := c119_W (runOf (s.drop at_)) (by omega)
  rw [in_word _ (run_no_blank _)] at hW
  have hnum := c118 (runOf (s.drop at_)) (by omega)
  have hr0 : isWord s[at_] = true → runOf (s.drop at_) ≠ [] := fun h => by rw [runOf_cons ha, h]; simp
  have h117 := c117 s hs at_ ha hb
  generalize runOf (s.drop at_) = r at *
  generalize signFrom signsT (s.drop at_) = x at *
  have ws : IntKind.wrap .i64 ((at_ : Int) + r.length - at_) = r.length := by rw [wrap64] <;> omega
  simp only [H2, Int.natCast_add] at hloop hsl
  simp only [listW] at hW
  by_cases hl : isLetter s[at_] = true
  · have hd : isDigit s[at_] = false := by
      cases hd : isDigit s[at_] with
      | false => rfl
      | true => rw [digit_no_letter hd] at hl; cases hl
    by_cases h40 : 40 < r.length
    · have h40' : (40 : Int) < r.length := by omega
      refine ⟨if r ∈ wordsT then 3 else 1, at_, 0, r, 0, fun h => callP_pure rfl rfl (evW_by (m57_eq _ _ _ _) ?_), by simp [hl, h40]⟩
      by_cases hm : r ∈ wordsT <;>
        simp [m57, hi, abuild, anew, tokCells, putCells, c115, c116, hl, hd, hloop, hsl, hW, hm, ws, h40', hide, hide1, lockIds, addrId, unhide, unhide1, finR_zero]
    · have h40' : ¬ (40 : Int) < r.length := by omega
      refine ⟨if r ∈ wordsT then 3 else 1, at_, 0, r, r.length, fun h => callP_pure rfl rfl (evW_by (m57_eq _ _ _ _) ?_), ?_⟩
      · by_cases hm : r ∈ wordsT <;>
          simp [m57, hi, abuild, anew, tokCells, putCells, c115, c116, hl, hd, hloop, hsl, hW, hm, ws, h40', hide, hide1, lockIds, addrId, unhide, unhide1, finR_zero]
      · by_cases hm : r ∈ wordsT <;> simp [hl, h40, hm, Token.cells]
  · have hlf : isLetter s[at_] = false := by simpa using hl
    by_cases hd : isDigit s[at_] = true
    · have hr := hr0 (by simp [isWord, hd])
      have hn := hnum hr
      cases hv : numberS r with
      | none =>
        have hnI : numI r = -1 := by simp [numI, hv]
        rw [hnI] at hn
        refine ⟨2, at_, -1, [], 0, fun h => callP_pure rfl rfl (evW_by (m57_eq _ _ _ _) ?_), by simp [hlf, hd]⟩
        simp [m57, hi, abuild, anew, tokCells, putCells, c115, c116, hlf, hd, hloop, hsl, hn, hide, hide1, lockIds, addrId, unhide, unhide1, finR_zero]
      | some v =>
        have hnI : numI r = v := by simp [numI, hv]
        rw [hnI] at hn
        have hneg : ¬ (v : Int) < 0 := by omega
        refine ⟨2, at_, v, [], r.length, fun h => callP_pure rfl rfl (evW_by (m57_eq _ _ _ _) ?_), by simp [hlf, hd, Token.cells]⟩
        simp [m57, hi, abuild, anew, tokCells, putCells, c115, c116, hlf, hd, hloop, hsl, hn, hneg, ws, hide, hide1, lockIds, addrId, unhide, unhide1, finR_zero]
    · have hdf : isDigit s[at_] = false := by simpa using hd
      refine ⟨4, at_, 0, x, x.length, fun h => callP_pure rfl rfl (evW_by (m57_eq _ _ _ _) ?_), ?_⟩
      · simp [m57, hi, abuild, anew, tokCells, putCells, c115, c116, hlf, hdf, h117, hide, hide1, lockIds, addrId, unhide, unhide1, finR_zero]
      · by_cases hx : x = []
        · simp [hlf, hdf, hx]
        · simp [hlf, hdf, hx, Token.cells]

end Go.Proofs.YtkeoalhglkfbkaaDoor

/-
  The document's lexer is the program's. No conditions.
-/
namespace Go.Proofs.YtkeoalhglkfbkaaDoor
open Go Hk

theorem skipTo_not_blank (s : List UInt8) (a : Nat) (h : skipTo s a < s.length) : isBlank s[skipTo s a] = false := by
  fun_induction skipTo s a with
  | case1 a h1 h2 ih => exact ih h
  | case2 a h1 h2 h3 ih => exact ih h
  | case3 a h1 h2 h3 => simpa using h2
  | case4 a h1 => exact absurd h h1

theorem not_blank_32 {b : UInt8} (h : isBlank b = false) : b ≠ 32 := by
  intro e; subst e; simp [isBlank] at h

def HR (e p : Int) (n sz : Nat) : Heap := [.front 0 0, .cells [.int .i64 e, .int .i64 p], .front n sz]
theorem trunc_HR {e p : Int} {n sz : Nat} {bs : Heap} : trunc 3 (.front 0 0 :: .cells [.int .i64 e, .int .i64 p] :: .front n sz :: bs) = some [.front 0 0, .cells [.int .i64 e, .int .i64 p], .front n sz] := by simp [trunc]

theorem m21_loop (s : List UInt8) (hs : s.length ≤ 65536) (a0 : Nat) (ha : a0 ≤ s.length) (out : List Token) (ho : out.length ≤ a0) :
    (∃ (l : List Token) (n sz : Nat), n = l.length ∧ l.length ≤ 65536 ∧ (sz = 4 ∨ l = [] ∧ sz = 0) ∧ lexFrom s a0 out = (l ++ [⟨0, s.length, 0, []⟩], 0, 0) ∧
      lpW (m21_l0 KK 3) ([.str s, .slice [] (.own 0), .ptr 1 0, .slice (out.map Token.cells) (.own 2), .int .i64 (skipTo s a0 : Nat)], HR 0 0 out.length (frSz (out.map Token.cells))) =
        some (.exit 0, [.str s, .slice [] (.own 0), .ptr 1 0, .slice (l.map Token.cells) (.own 2), .int .i64 (s.length : Nat)], HR 0 0 n sz)) ∨
    (∃ (p : Nat) (v : AVal) (at' : Int) (n sz : Nat), lexFrom s a0 out = ([], 9, p) ∧
      lpW (m21_l0 KK 3) ([.str s, .slice [] (.own 0), .ptr 1 0, .slice (out.map Token.cells) (.own 2), .int .i64 (skipTo s a0 : Nat)], HR 0 0 out.length (frSz (out.map Token.cells))) =
        some (.ret, [.str s, .slice [] .no, .ptr 1 0, v, .int .i64 at'], HR 9 p n sz)) := by
  induction hn : s.length - a0 using Nat.strongRecOn generalizing a0 out with
  | _ n ih =>
    rw [lpW_step]
    have hge := skipTo_ge s a0
    have hle := skipTo_le s a0 ha
    rw [lexFrom]
    by_cases h : skipTo s a0 < s.length
    · have h' : (skipTo s a0 : Int) < s.length := by omega
      obtain ⟨k, p, q, t, m, hc, hm⟩ := c57 s hs (skipTo s a0) h (not_blank_32 (skipTo_not_blank s a0 h))
      simp only [h, dite_true]
      cases hone : oneS (s.drop (skipTo s a0)) (skipTo s a0) with
      | none =>
        rw [hone] at hm
        simp only [] at hm
        subst hm
        right
        refine ⟨skipTo s a0, .slice (out.map Token.cells) (.own 2), (skipTo s a0 : Nat), out.length, frSz (out.map Token.cells), rfl, ?_⟩
        simp only [Int.ofNat_eq_natCast, Int.cast_ofNat_Int] at hc
        simp [m21_l0, HR, h', hc, anew, tokCells, abuild, putCells, endR, trunc_HR, san1_ptr]
      | some tn =>
        obtain ⟨u, m'⟩ := tn
        rw [hone] at hm
        obtain ⟨hcell, rfl⟩ := hm
        obtain ⟨hk1, hk2⟩ := oneS_pos hone
        simp only [List.length_drop] at hk2
        have hmax : max 1 m = m := by omega
        have w : IntKind.wrap .i64 ((skipTo s a0 : Int) + m) = (skipTo s a0 : Int) + m := by rw [wrap64] <;> omega
        have h56 := c56 s hs (skipTo s a0 + m) (by omega)
        have hm0 : ¬ ((m : Int) = 0) := by omega
        have hm1 : ¬ m = 0 := by omega
        rw [hcell] at hc
        have step : m21_l0 KK 3 ([.str s, .slice [] (.own 0), .ptr 1 0, .slice (out.map Token.cells) (.own 2), .int .i64 (skipTo s a0 : Nat)], HR 0 0 out.length (frSz (out.map Token.cells))) =
            some (.normal, [.str s, .slice [] (.own 0), .ptr 1 0, .slice ((out ++ [u]).map Token.cells) (.own 2), .int .i64 (skipTo s (skipTo s a0 + m) : Nat)], HR 0 0 (out ++ [u]).length (frSz ((out ++ [u]).map Token.cells))) := by
          have h1 : (out.length + 1) * 40 ≤ 140737488355328 := by omega
          have h2 : out.length + 1 ≤ 140737488355328 := by omega
          have h3 : frSz (out.map Token.cells) = 4 ∨ out.length = 0 ∧ frSz (out.map Token.cells) = 0 := by cases out <;> simp [frSz]
          have hap : aappend 4 40 [.front 0 0, .cells [.int .i64 0, .int .i64 0], .front out.length (frSz (out.map Token.cells)), .cells u.cells, .front 1 4] (.slice (out.map Token.cells) (.own 2)) (.slice [u.cells] (.own 4)) =
              some (.slice (out.map Token.cells ++ [u.cells]) (.own 2), [.front 0 0, .cells [.int .i64 0, .int .i64 0], .front (out.length + 1) 4, .cells u.cells, .front 1 4]) := by
            have hall : [u.cells].all (fun r => r.length == 4) = true := rfl
            have hget : ([.front 0 0, .cells [.int .i64 0, .int .i64 0], .front out.length (frSz (out.map Token.cells)), .cells u.cells, .front 1 4] : Heap)[2]? = some (.front out.length (frSz (out.map Token.cells))) := rfl
            simp only [aappend, arowsS, hall, if_true, hget, List.length_map, List.length_cons, List.length_nil, Nat.zero_add, h1, h2, h3, and_self]
            rfl
          simp only [Int.natCast_add] at h56
          simp only [Token.cells] at hap
          have hfr := frSz_app (out.map Token.cells) u.cells
          simp only [Token.cells] at hfr
          simp [m21_l0, HR, h', hc, Token.cells, anew, tokCells, abuild, putCells, hm0, hm1, abuildSlice, abuildRow, pureRow, AVal.pure1, rowsOf, hap, w, h56, endR, trunc_HR, san1_ptr, hfr]
        rw [step]
        simp only [Option.bind_some, thenDo_normal, hmax]
        exact ih (s.length - (skipTo s a0 + m)) (by omega) (skipTo s a0 + m) (by omega) (out ++ [u]) (by simp; omega) rfl
    · have heq : skipTo s a0 = s.length := by omega
      left
      simp only [h, dite_false]
      refine ⟨out, out.length, frSz (out.map Token.cells), rfl, by omega, by cases out <;> simp [frSz], rfl, ?_⟩
      rw [heq]
      simp [m21_l0, HR, endR, trunc_HR, san1_ptr]

/-- THE DOCUMENT's LEXER. -/
theorem c21 (s : List UInt8) (h : Heap) : KK 21 [.str s] h = some (.ret (.tuple [.slice ((lexS s).1.map Token.cells) .no, .agg [.int .i64 ((lexS s).2.1 : Nat), .int .i64 ((lexS s).2.2 : Nat)]]), h) := by
  refine callP_pure rfl rfl (evW_by (m21_eq _ _ _) ?_)
  by_cases hs : 65536 < s.length
  · have hs' : (65536 : Int) < s.length := by omega
    simp [m21, anew, tokCells, abuild, putCells, hs', lexS, hs, finR_zero]
  · have hs' : ¬ (65536 : Int) < s.length := by omega
    have hlex : lexS s = lexFrom s 0 [] := by simp [lexS, hs]
    have h56 := c56 s (by omega) 0 (Nat.zero_le _)
    simp only [Int.ofNat_eq_natCast, Int.cast_ofNat_Int] at h56
    rw [hlex]
    rcases m21_loop s (by omega) 0 (Nat.zero_le _) [] (Nat.zero_le _) with ⟨l, n, sz, hn, hl, hsz, hlx, hlp⟩ | ⟨p, v, at', n, sz, hlx, hlp⟩
    · rw [hlx]
      subst hn
      simp only [HR, List.map_nil, List.length_nil, frSz] at hlp
      have h1 : (l.length + 1) * 40 ≤ 140737488355328 := by omega
      have h2 : l.length + 1 ≤ 140737488355328 := by omega
      have h3 : sz = 4 ∨ l.length = 0 ∧ sz = 0 := by
        rcases hsz with h | ⟨h, h'⟩
        · exact .inl h
        · exact .inr ⟨by simp [h], h'⟩
      have hap : aappend 4 40 [.front 0 0, .cells [.int .i64 0, .int .i64 0], .front l.length sz, .front 1 4] (.slice (l.map Token.cells) (.own 2)) (.slice [[.int .i64 0, .int .i64 (s.length : Nat), .int .i64 0, .str []]] (.own 3)) =
          some (.slice (l.map Token.cells ++ [[.int .i64 0, .int .i64 (s.length : Nat), .int .i64 0, .str []]]) (.own 2), [.front 0 0, .cells [.int .i64 0, .int .i64 0], .front (l.length + 1) 4, .front 1 4]) := by
        have hget : ([.front 0 0, .cells [.int .i64 0, .int .i64 0], .front l.length sz, .front 1 4] : Heap)[2]? = some (.front l.length sz) := rfl
        have hall : ([[.int .i64 0, .int .i64 (s.length : Nat), .int .i64 0, .str []]] : List (List AVal)).all (fun r => r.length == 4) = true := rfl
        simp only [aappend, arowsS, hall, if_true, hget, List.length_map, List.length_cons, List.length_nil, Nat.zero_add, h1, h2, h3, and_self]
        rfl
      simp [m21, anew, tokCells, abuild, putCells, hs', h56, hlp, abuildSlice, abuildRow, pureRow, AVal.pure1, rowsOf, hap, finR_zero, Token.cells]
    · rw [hlx]
      simp only [HR, List.map_nil, List.length_nil, frSz] at hlp
      simp [m21, anew, tokCells, abuild, putCells, hs', h56, hlp, finR_zero]

end Go.Proofs.YtkeoalhglkfbkaaDoor

/-
  LexTells answers true for any text. No conditions.
-/
namespace Go.Proofs.YtkeoalhglkfbkaaDoor
open Go Hk

theorem tok_len (t : Token) : t.cells.length = 4 := rfl
theorem tok_take (t : Token) : t.cells.take 4 = t.cells := rfl
theorem lexFrom_len (s : List UInt8) (a : Nat) (out : List Token) (ha : a ≤ s.length) : (lexFrom s a out).1.length ≤ out.length + (s.length - a) + 1 := by
  fun_induction lexFrom s a out with
  | case1 a out h h1 => simp
  | case2 a out h t n h1 ih =>
    have := oneS_pos h1
    simp only [List.length_drop] at this
    have hge := skipTo_ge s a
    have := ih (by omega)
    simp at this
    omega
  | case3 a out h => simp
theorem lexS_len (s : List UInt8) : (lexS s).1.length ≤ 65537 := by
  unfold lexS
  split
  · simp
  · have := lexFrom_len s 0 [] (Nat.zero_le _)
    simp at this
    omega

/-! ### The document's examples -/

theorem lex_step {s : List UInt8} {a a' n : Nat} {out : List Token} {t : Token} (h1 : skipTo s a = a') (h2 : a' < s.length) (h3 : oneS (s.drop a') a' = some (t, n)) {a2 : Nat} (h4 : a' + max 1 n = a2) : lexFrom s a out = lexFrom s a2 (out ++ [t]) := by
  subst h1; subst h4
  rw [lexFrom, dif_pos h2, h3]
theorem lex_bad {s : List UInt8} {a a' : Nat} {out : List Token} (h1 : skipTo s a = a') (h2 : a' < s.length) (h3 : oneS (s.drop a') a' = none) : lexFrom s a out = ([], 9, a') := by
  subst h1
  rw [lexFrom, dif_pos h2, h3]
theorem lex_end {s : List UInt8} {a : Nat} {out : List Token} (h1 : ¬ skipTo s a < s.length) : lexFrom s a out = (out ++ [⟨0, s.length, 0, []⟩], 0, 0) := by
  rw [lexFrom, dif_neg h1]
end Go.Proofs.YtkeoalhglkfbkaaDoor

/-
  THE PLAIN LAW: the tokens of two texts with a line's end between. No program in sight. No conditions.
-/
namespace Go.Proofs.YtkeoalhglkfbkaaDoor
open Go Hk

def shiftT (k : Nat) (t : Token) : Token := { t with pos := t.pos + k }
end Go.Proofs.YtkeoalhglkfbkaaDoor

/-
  LexJoins answers true, by the evaluator. No conditions.
-/
namespace Go.Proofs.YtkeoalhglkfbkaaDoor
open Go Hk

theorem oneS_at {l : List UInt8} {a n : Nat} {t : Token} (h : oneS l a = some (t, n)) : t.pos = a := by
  unfold oneS at h
  cases l with
  | nil => cases h
  | cons b r =>
    simp only [] at h
    split at h
    · split at h
      · cases h
      · simp only [Option.some.injEq, Prod.mk.injEq] at h; rw [← h.1]
    · split at h
      · split at h
        · cases h
        · simp only [Option.some.injEq, Prod.mk.injEq] at h; rw [← h.1]
      · split at h
        · cases h
        · simp only [Option.some.injEq, Prod.mk.injEq] at h; rw [← h.1]

theorem lexFrom_pos (s : List UInt8) (a : Nat) (out : List Token) (ho : ∀ x ∈ out, x.pos ≤ s.length) : ∀ x ∈ (lexFrom s a out).1, x.pos ≤ s.length := by
  fun_induction lexFrom s a out with
  | case1 => simp
  | case2 a out h t n h3 ih =>
    apply ih
    intro x hx
    rcases List.mem_append.1 hx with hx | hx
    · exact ho x hx
    · obtain rfl : x = t := by simpa using hx
      have := oneS_at h3
      omega
  | case3 a out h =>
    intro x hx
    rcases List.mem_append.1 hx with hx | hx
    · exact ho x hx
    · obtain rfl : x = ⟨0, s.length, 0, []⟩ := by simpa using hx
      exact Nat.le_refl _
theorem lexS_pos (s : List UInt8) : ∀ x ∈ (lexS s).1, x.pos ≤ s.length := by
  unfold lexS
  split
  · simp
  · exact lexFrom_pos s 0 [] (by simp)

section
variable (s : List UInt8) (A B C : List Token) (L : Nat) (e p f q g o : Int)

end
end Go.Proofs.YtkeoalhglkfbkaaDoor

/-
  LexJoins answers true, by the evaluator: the whole function. No conditions.
-/
namespace Go.Proofs.YtkeoalhglkfbkaaDoor
open Go Hk

section
variable (s t : List UInt8)

end
end Go.Proofs.YtkeoalhglkfbkaaDoor

/-
  THE PLAIN LAW: tokens written with a blank behind each are those tokens. No program in sight. No conditions.
-/
namespace Go.Proofs.YtkeoalhglkfbkaaDoor
open Go Hk

/-! ### Decimals -/
def digs (n : Nat) (acc : List UInt8) : List UInt8 := if n = 0 then acc else digs (n / 10) (UInt8.ofNat (48 + n % 10) :: acc)
termination_by n
decreasing_by omega
def decS (n : Nat) : List UInt8 := if n = 0 then [48] else digs n []

theorem dig_toNat (n : Nat) : (UInt8.ofNat (48 + n % 10)).toNat = 48 + n % 10 := by
  rw [UInt8.toNat_ofNat']; omega
theorem dig_is (n : Nat) : isDigit (UInt8.ofNat (48 + n % 10)) = true := by
  unfold isDigit; rw [dig_toNat]; simp; omega
theorem dig_val (n : Nat) : valueS false (UInt8.ofNat (48 + n % 10)) = some (n % 10) := by
  unfold valueS; rw [if_pos (dig_is n), dig_toNat]; congr 1; omega

theorem digs_val (n : Nat) : ∀ acc, n ≤ 4294967295 → digitsVal false (digs n acc) 0 = digitsVal false acc n := by
  induction n using Nat.strongRecOn with
  | _ n ih =>
    intro acc hn
    rw [digs]
    by_cases h : n = 0
    · rw [if_pos h, h]
    · rw [if_neg h, ih (n / 10) (by omega) _ (by omega)]
      simp only [digitsVal, dig_val]
      have e : baseOf false * (n / 10) + n % 10 = n := by simp only [baseOf]; simp; omega
      rw [e, if_neg (by omega)]
theorem digs_all (n : Nat) : ∀ acc, (∀ b ∈ acc, isDigit b = true) → ∀ b ∈ digs n acc, isDigit b = true := by
  induction n using Nat.strongRecOn with
  | _ n ih =>
    intro acc ha
    rw [digs]
    by_cases h : n = 0
    · rw [if_pos h]; exact ha
    · rw [if_neg h]
      refine ih (n / 10) (by omega) _ ?_
      intro b hb
      rcases List.mem_cons.1 hb with rfl | hb
      · exact dig_is n
      · exact ha b hb
theorem digs_head (n : Nat) : ∀ acc, n ≠ 0 → ∃ c r, digs n acc = c :: r ∧ c ≠ 48 := by
  induction n using Nat.strongRecOn with
  | _ n ih =>
    intro acc h
    rw [digs, if_neg h]
    by_cases h2 : n / 10 = 0
    · rw [digs, if_pos h2]
      refine ⟨_, _, rfl, fun e => ?_⟩
      have := congrArg UInt8.toNat e
      rw [dig_toNat] at this
      simp at this
      omega
    · exact ih (n / 10) (by omega) _ h2
theorem decS_all (n : Nat) : ∀ b ∈ decS n, isDigit b = true := by
  unfold decS
  split
  · intro b hb
    obtain rfl : b = 48 := (by simpa using hb)
    decide
  · exact digs_all n [] (by simp)
theorem decS_ne (n : Nat) : ∃ c r, decS n = c :: r := by
  unfold decS
  split
  · exact ⟨_, _, rfl⟩
  · obtain ⟨c, r, h, _⟩ := digs_head n [] (by assumption); exact ⟨c, r, h⟩
theorem digit_120 : isDigit 120 = false := by decide
theorem numberS_dec (n : Nat) (hn : n ≤ 4294967295) : numberS (decS n) = some n := by
  have hall := decS_all n
  have h2 : ¬ (decS n).take 2 = [48, 120] := by
    intro h
    have : (120 : UInt8) ∈ (decS n).take 2 := by rw [h]; simp
    have := hall _ (List.mem_of_mem_take this)
    rw [digit_120] at this; cases this
  unfold numberS
  rw [if_neg h2]
  unfold decS
  by_cases h : n = 0
  · rw [if_pos h, if_neg (by simp), h]; decide
  · rw [if_neg h]
    obtain ⟨c, r, e, hc⟩ := digs_head n [] h
    rw [if_neg (by rw [e]; simp [hc]), digs_val n [] hn]
    rfl
theorem run_digits : ∀ (d r : List UInt8), (∀ b ∈ d, isDigit b = true) → runOf (d ++ 32 :: r) = d
  | [], r, _ => by
    have : isWord 32 = false := by decide
    simp [runOf, List.takeWhile_cons, this]
  | b :: d, r, h => by
    have hb : isWord b = true := by simp [isWord, h b (by simp)]
    have ih := run_digits d r (fun x hx => h x (by simp [hx]))
    unfold runOf at ih ⊢
    simp [List.takeWhile_cons, hb, ih]
theorem run_words2 : ∀ (d r : List UInt8), (∀ b ∈ d, isWord b = true) → runOf (d ++ 32 :: r) = d
  | [], r, _ => by
    have : isWord 32 = false := by decide
    simp [runOf, List.takeWhile_cons, this]
  | b :: d, r, h => by
    have ih := run_words2 d r (fun x hx => h x (by simp [hx]))
    unfold runOf at ih ⊢
    simp [List.takeWhile_cons, h b (by simp), ih]
theorem val_le (hex : Bool) : ∀ (l : List UInt8) (n r : Nat), n ≤ 4294967295 → digitsVal hex l n = some r → r ≤ 4294967295
  | [], n, r, hn, h => by simp only [digitsVal, Option.some.injEq] at h; omega
  | b :: l, n, r, hn, h => by
    simp only [digitsVal] at h
    split at h
    · cases h
    · split at h
      · cases h
      · exact val_le hex l _ r (by omega) h
theorem numberS_le {l : List UInt8} {n : Nat} (h : numberS l = some n) : n ≤ 4294967295 := by
  unfold numberS at h
  split at h
  · split at h
    · cases h
    · exact val_le true _ 0 n (by omega) h
  · split at h
    · cases h
    · exact val_le false _ 0 n (by omega) h

/-! ### A token written -/
def written (x : Token) : List UInt8 := if x.kind = 2 then decS x.num else x.text
def moved (x : Token) (p : Nat) : Token := { x with pos := p }
def Good (x : Token) : Prop := x.kind ≠ 0 ∧ x.num ≤ 4294967295 ∧ x.text.length ≤ 65536 ∧ (∃ b r, written x = b :: r ∧ isBlank b = false ∧ b ≠ 47) ∧ ∀ rest p, oneS (written x ++ 32 :: rest) p = some (moved x p, (written x).length)

theorem letter_ok {b : UInt8} (h : isLetter b = true) : isBlank b = false ∧ b ≠ 47 := by
  constructor
  · simp [isLetter, isBlank] at h ⊢; omega
  · rintro rfl; revert h; decide
theorem digit_ok {b : UInt8} (h : isDigit b = true) : isBlank b = false ∧ b ≠ 47 := by
  constructor
  · simp [isDigit, isBlank] at h ⊢; omega
  · rintro rfl; revert h; decide

theorem signs_len : ∀ x ∈ signsT, x.length ≤ 2 ∧ ∃ b r, x = b :: r ∧ isBlank b = false ∧ b ≠ 47 ∧ isLetter b = false ∧ isDigit b = false := by
  intro x hx
  have : signsT.all (fun x => decide (x.length ≤ 2) && (match x with | [] => false | b :: _ => !isBlank b && decide (b ≠ 47) && !isLetter b && !isDigit b)) = true := by decide
  have h := List.all_eq_true.1 this x hx
  cases x with
  | nil => simp at h
  | cons b r =>
    simp only [Bool.and_eq_true, decide_eq_true_eq, Bool.not_eq_true'] at h
    exact ⟨h.1, b, r, rfl, h.2.1.1.1, h.2.1.1.2, h.2.1.2, h.2.2⟩
theorem sign_mem {l : List UInt8} (h : signFrom signsT l ≠ []) : signFrom signsT l ∈ signsT ∧ l.take (signFrom signsT l).length = signFrom signsT l := by
  unfold signFrom at h ⊢
  cases hf : signsT.find? (fun x => decide (l.take x.length = x)) with
  | none => rw [hf] at h; exact absurd rfl h
  | some x =>
    simp only [Option.getD_some]
    exact ⟨List.mem_of_find?_eq_some hf, by simpa using List.find?_some hf⟩
theorem sign_again {x : List UInt8} (hx : x ∈ signsT) (rest : List UInt8) : signFrom signsT (x ++ 32 :: rest) = x := by
  rw [signFrom_eq]
  have hs : signsT = twosT ++ onesT := by decide
  rw [hs] at hx
  rcases List.mem_append.1 hx with h | h
  · have hl : x.length = 2 := (by decide : ∀ y ∈ twosT, y.length = 2) x h
    have e : (x ++ 32 :: rest).take 2 = x := by rw [← hl]; simp
    rw [e, if_pos h]
  · have hl : x.length = 1 := (by decide : ∀ y ∈ onesT, y.length = 1) x h
    have e : (x ++ 32 :: rest).take 1 = x := by rw [← hl]; simp
    have e2 : (x ++ 32 :: rest).take 2 = x ++ [32] := by
      match x, hl with
      | [b], _ => rfl
    have h2 : ¬ x ++ [32] ∈ twosT := by
      intro h3
      have := (by decide : ∀ y ∈ twosT, (32 : UInt8) ∉ y) _ h3
      simp at this
    rw [e, e2, if_neg h2, if_pos h]

theorem good_of {d : List UInt8} {a n : Nat} {x : Token} (h : oneS d a = some (x, n)) : Good x ∧ (x.kind ≠ 2 → d.take x.text.length = x.text) := by
  unfold oneS at h
  cases d with
  | nil => cases h
  | cons b r =>
    simp only [] at h
    by_cases h1 : isLetter b = true
    · rw [if_pos h1] at h
      have hrun : runOf (b :: r) = b :: runOf r := by simp [runOf, List.takeWhile_cons, isWord, h1]
      have hw := run_words (b :: r)
      have htk := take_run (b :: r)
      split at h
      · cases h
      · rename_i h40
        simp only [Option.some.injEq, Prod.mk.injEq] at h
        obtain ⟨rfl, _⟩ := h
        have hk2 : ¬ (if runOf (b :: r) ∈ wordsT then 3 else 1) = 2 := by split <;> omega
        have hwr : written ⟨if runOf (b :: r) ∈ wordsT then 3 else 1, a, 0, runOf (b :: r)⟩ = runOf (b :: r) := by unfold written; rw [if_neg hk2]
        obtain ⟨o1, o2⟩ := letter_ok h1
        refine ⟨⟨by show (if _ then _ else _) ≠ _; split <;> omega, Nat.zero_le _, by show (runOf (b :: r)).length ≤ _; omega, ⟨b, runOf r, by rw [hwr, hrun], o1, o2⟩, fun rest p => ?_⟩, fun _ => htk⟩
        rw [hwr]
        have hag := run_words2 (runOf (b :: r)) rest hw
        generalize runOf (b :: r) = w at *
        subst hrun
        unfold oneS
        simp only [List.cons_append] at hag ⊢
        rw [if_pos h1]
        simp only [hag]
        rw [if_neg h40]
        rfl
    · rw [if_neg h1] at h
      by_cases h2 : isDigit b = true
      · rw [if_pos h2] at h
        split at h
        · cases h
        · rename_i m hm
          simp only [Option.some.injEq, Prod.mk.injEq] at h
          obtain ⟨rfl, _⟩ := h
          have hm' := numberS_le hm
          have hwr : written ⟨2, a, m, []⟩ = decS m := by unfold written; rw [if_pos rfl]
          obtain ⟨c, q, hc⟩ := decS_ne m
          have hcd : isDigit c = true := decS_all m c (by rw [hc]; simp)
          obtain ⟨o1, o2⟩ := digit_ok hcd
          refine ⟨⟨by show (2 : Nat) ≠ 0; decide, hm', by simp, ⟨c, q, by rw [hwr, hc], o1, o2⟩, fun rest p => ?_⟩, fun hk => absurd rfl hk⟩
          rw [hwr]
          have hag := run_digits (decS m) rest (decS_all m)
          have hnum := numberS_dec m hm'
          rw [hc] at hag hnum ⊢
          unfold oneS
          simp only [List.cons_append] at hag ⊢
          rw [if_neg (by rw [digit_no_letter hcd]; decide), if_pos hcd, hag, hnum]
          rfl
      · rw [if_neg h2] at h
        split at h
        · cases h
        · rename_i h3
          simp only [Option.some.injEq, Prod.mk.injEq] at h
          obtain ⟨rfl, _⟩ := h
          obtain ⟨hm, htk⟩ := sign_mem h3
          obtain ⟨hl, c, q, hc, o1, o2, o3, o4⟩ := signs_len _ hm
          have hwr : written ⟨4, a, 0, signFrom signsT (b :: r)⟩ = signFrom signsT (b :: r) := by unfold written; rw [if_neg (by show ¬ (4 : Nat) = 2; decide)]
          refine ⟨⟨by show (4 : Nat) ≠ 0; decide, Nat.zero_le _, by show (signFrom signsT (b :: r)).length ≤ _; omega, ⟨c, q, by rw [hwr, hc], o1, o2⟩, fun rest p => ?_⟩, fun _ => htk⟩
          rw [hwr]
          have hag := sign_again hm rest
          generalize signFrom signsT (b :: r) = w at *
          subst hc
          unfold oneS
          simp only [List.cons_append] at hag ⊢
          rw [if_neg (by rw [o3]; decide), if_neg (by rw [o4]; decide), hag, if_neg (by simp)]
          rfl

end Go.Proofs.YtkeoalhglkfbkaaDoor

/-
  A token written: the document's function, by the evaluator. No conditions.
-/
namespace Go.Proofs.YtkeoalhglkfbkaaDoor
open Go Hk

end Go.Proofs.YtkeoalhglkfbkaaDoor

/-
  LexAgain: a round of its first loop, by the evaluator. No conditions.
-/
namespace Go.Proofs.YtkeoalhglkfbkaaDoor
open Go Hk

section
variable (s : List UInt8) (A : List Token) (L : Nat) (T : List UInt8) (ps : List Nat) (sz i : Nat) (x : Token)

end
end Go.Proofs.YtkeoalhglkfbkaaDoor

/-
  LexAgain answers true, by the evaluator: its loops and the whole function. No conditions.
-/
namespace Go.Proofs.YtkeoalhglkfbkaaDoor
open Go Hk

/-! ### What a text's tokens are like -/
def Fact (s : List UInt8) (x : Token) : Prop := x.pos < s.length ∧ Good x ∧ (x.kind ≠ 2 → (s.drop x.pos).take x.text.length = x.text)

theorem lexFrom_facts (s : List UInt8) (a : Nat) (out : List Token) : (∃ p, lexFrom s a out = ([], 9, p)) ∨
    ∃ l, lexFrom s a out = (out ++ l ++ [⟨0, s.length, 0, []⟩], 0, 0) ∧ (∀ x ∈ l, a ≤ x.pos ∧ Fact s x) ∧ l.Pairwise (fun x y => x.pos < y.pos) := by
  induction hm : s.length - a using Nat.strongRecOn generalizing a out with
  | _ m ih =>
    have hge := skipTo_ge s a
    by_cases hlt : skipTo s a < s.length
    · cases h3 : oneS (s.drop (skipTo s a)) (skipTo s a) with
      | none => exact .inl ⟨_, lex_bad rfl hlt h3⟩
      | some x =>
        obtain ⟨y, n⟩ := x
        have hy := oneS_at h3
        have hgood := good_of h3
        rcases ih (s.length - (skipTo s a + max 1 n)) (by omega) (skipTo s a + max 1 n) (out ++ [y]) rfl with ⟨p, h⟩ | ⟨l, h, h1, h2⟩
        · exact .inl ⟨p, (lex_step rfl hlt h3 rfl).trans h⟩
        · refine .inr ⟨y :: l, (lex_step rfl hlt h3 rfl).trans (h.trans (by simp)), ?_, ?_⟩
          · intro z hz
            rcases List.mem_cons.1 hz with rfl | hz
            · exact ⟨by omega, by omega, hgood.1, by rw [hy]; exact hgood.2⟩
            · exact ⟨by have := (h1 z hz).1; omega, (h1 z hz).2⟩
          · refine List.pairwise_cons.2 ⟨fun z hz => ?_, h2⟩
            have := (h1 z hz).1
            omega
    · exact .inr ⟨[], (lex_end hlt).trans (by simp), by simp, List.Pairwise.nil⟩

section
variable (s : List UInt8) (l : List Token)

end
end Go.Proofs.YtkeoalhglkfbkaaDoor

/-
  LexAgain answers true, by the evaluator: the whole function. No conditions.
-/
namespace Go.Proofs.YtkeoalhglkfbkaaDoor
open Go Hk

section
variable (s : List UInt8)

end
end Go.Proofs.YtkeoalhglkfbkaaDoor

/-
  Signs of the texts: what the small functions on bytes and strings answer. No conditions.
-/
import Derived.Test.YtkeoalhglkfbkaaDoorM
set_option linter.unusedVariables false
set_option linter.unusedSimpArgs false
namespace Go.Proofs.YtkeoalhglkfbkaaDoor
open Go Hk

noncomputable abbrev KK : CallO := callP ann (evW Tryd.prog ann)

/-- A byte as a value. -/
abbrev by8 (b : UInt8) : AVal := .int .u8 (b.toNat : Int)

def isDigit (b : UInt8) : Bool := decide (48 ≤ b.toNat) && decide (b.toNat ≤ 57)
def isLetter (b : UInt8) : Bool := decide (97 ≤ b.toNat) && decide (b.toNat ≤ 122) || decide (65 ≤ b.toNat) && decide (b.toNat ≤ 90) || decide (b.toNat = 95)
def isBlank (b : UInt8) : Bool := decide (b.toNat = 32) || decide (b.toNat = 9) || decide (b.toNat = 10) || decide (b.toNat = 13)

theorem m112_spec (K : CallO) (b : UInt8) : m112 K (by8 b) [] = some (.ret (.bool (isDigit b)), []) := by
  by_cases h1 : 48 ≤ b.toNat <;> by_cases h2 : b.toNat ≤ 57
  all_goals
    have h1' : ((48 : Int) ≤ b.toNat) ↔ 48 ≤ b.toNat := by omega
    have h2' : ((b.toNat : Int) ≤ 57) ↔ b.toNat ≤ 57 := by omega
    simp [m112, isDigit, h1, h2, h1', h2', finR_zero]
theorem c112 (b : UInt8) (h : Heap) : KK 112 [by8 b] h = some (.ret (.bool (isDigit b)), h) := callP_pure rfl rfl (evW_by (m112_eq _ _ _) (m112_spec KK b))
theorem c116 (b : UInt8) (h : Heap) : KK 116 [by8 b] h = some (.ret (.bool (isDigit b)), h) := callP_pure rfl rfl (evW_by (m116_eq _ _ _) (m112_spec KK b))

theorem m110_spec (K : CallO) (b : UInt8) : m110 K (by8 b) [] = some (.ret (.bool (isLetter b)), []) := by
  have e1 : ((97 : Int) ≤ b.toNat) ↔ 97 ≤ b.toNat := by omega
  have e2 : ((b.toNat : Int) ≤ 122) ↔ b.toNat ≤ 122 := by omega
  have e3 : ((65 : Int) ≤ b.toNat) ↔ 65 ≤ b.toNat := by omega
  have e4 : ((b.toNat : Int) ≤ 90) ↔ b.toNat ≤ 90 := by omega
  have e5 : ((b.toNat : Int) = 95) ↔ b.toNat = 95 := by omega
  by_cases h1 : 97 ≤ b.toNat <;> by_cases h2 : b.toNat ≤ 122 <;> by_cases h3 : 65 ≤ b.toNat <;> by_cases h4 : b.toNat ≤ 90 <;> by_cases h5 : b.toNat = 95 <;>
    simp [m110, isLetter, e1, e2, e3, e4, e5, h1, h2, h3, h4, h5, finR_zero]
theorem c110 (b : UInt8) (h : Heap) : KK 110 [by8 b] h = some (.ret (.bool (isLetter b)), h) := callP_pure rfl rfl (evW_by (m110_eq _ _ _) (m110_spec KK b))
theorem c115 (b : UInt8) (h : Heap) : KK 115 [by8 b] h = some (.ret (.bool (isLetter b)), h) := callP_pure rfl rfl (evW_by (m115_eq _ _ _) (m110_spec KK b))

theorem m107_spec (K : CallO) (b : UInt8) : m107 K (by8 b) [] = some (.ret (.bool (isBlank b)), []) := by
  have e1 : ((b.toNat : Int) = 32) ↔ b.toNat = 32 := by omega
  have e2 : ((b.toNat : Int) = 9) ↔ b.toNat = 9 := by omega
  have e3 : ((b.toNat : Int) = 10) ↔ b.toNat = 10 := by omega
  have e4 : ((b.toNat : Int) = 13) ↔ b.toNat = 13 := by omega
  by_cases h1 : b.toNat = 32 <;> by_cases h2 : b.toNat = 9 <;> by_cases h3 : b.toNat = 10 <;> by_cases h4 : b.toNat = 13 <;>
    simp [m107, isBlank, e1, e2, e3, e4, h1, h2, h3, h4, finR_zero]
theorem c107 (b : UInt8) (h : Heap) : KK 107 [by8 b] h = some (.ret (.bool (isBlank b)), h) := callP_pure rfl rfl (evW_by (m107_eq _ _ _) (m107_spec KK b))
theorem c114 (b : UInt8) (h : Heap) : KK 114 [by8 b] h = some (.ret (.bool (isBlank b)), h) := callP_pure rfl rfl (evW_by (m114_eq _ _ _) (m107_spec KK b))

/-! ### Strings -/

theorem m170_spec (K : CallO) (s t : List UInt8) : m170 K (.str s) (.str t) [] = some (.ret (.bool (decide (s.take t.length = t))), []) := by
  by_cases h : t.length ≤ s.length
  · have h' : (t.length : Int) ≤ s.length := by omega
    have := asliceStr_nat (s := s) (lo := none) (hi := some (.int .i64 (t.length : Int))) abound_none abound_nat (Nat.zero_le _) h
    simp [m170, h', this, finR_zero]
  · have h' : ¬ (t.length : Int) ≤ s.length := by omega
    have h2 : ¬ s.take t.length = t := fun e => h (by have := congrArg List.length e; simp at this; omega)
    simp [m170, h', h2, finR_zero]
theorem c170 (s t : List UInt8) (h : Heap) : KK 170 [.str s, .str t] h = some (.ret (.bool (decide (s.take t.length = t))), h) := callP_pure rfl rfl (evW_by (m170_eq _ _ _ _) (m170_spec _ s t))
theorem c108 (s t : List UInt8) (h : Heap) : KK 108 [.str s, .str t] h = some (.ret (.bool (decide (s.take t.length = t))), h) :=
  callP_pure rfl rfl (evW_by (m108_eq _ _ _ _) (by simp [m108, c170, finR_zero]))

theorem c171 (s : List UInt8) (b : UInt8) (h : Heap) : KK 171 [.str s, by8 b] h = some (.ret (.int .i64 (aindexByte s b)), h) :=
  callP_pure rfl rfl (evW_by (m171_eq _ _ _ _) (by simp [m171, extC, extV, finR_zero]))
theorem c109 (s : List UInt8) (b : UInt8) (h : Heap) : KK 109 [.str s, by8 b] h = some (.ret (.int .i64 (aindexByte s b)), h) :=
  callP_pure rfl rfl (evW_by (m109_eq _ _ _ _) (by simp [m109, c171, finR_zero]))

/-- What is behind a prefix, and whether it is there. -/
def cutPrefix (s t : List UInt8) : List UInt8 × Bool := if s.take t.length = t then (s.drop t.length, true) else (s, false)
theorem c219 (s t : List UInt8) (h : Heap) : KK 219 [.str s, .str t] h = some (.ret (.tuple [.str (cutPrefix s t).1, .bool (cutPrefix s t).2]), h) :=
  callP_pure rfl rfl (evW_by (m219_eq _ _ _ _) (by
    by_cases hp : s.take t.length = t
    · have hl : t.length ≤ s.length := by have := congrArg List.length hp; simp at this; omega
      have := asliceStr_nat (s := s) (lo := some (.int .i64 (t.length : Int))) (hi := none) abound_nat abound_none hl (Nat.le_refl _)
      have e : (s.drop t.length).take (s.length - t.length) = s.drop t.length := List.take_of_length_le (by simp)
      simp [m219, c170, hp, this, cutPrefix, e, finR_zero]
    · simp [m219, c170, hp, cutPrefix, finR_zero]))
theorem c172 (s t : List UInt8) (h : Heap) : KK 172 [.str s, .str t] h = some (.ret (.tuple [.str (cutPrefix s t).1, .bool (cutPrefix s t).2]), h) :=
  callP_pure rfl rfl (evW_by (m172_eq _ _ _ _) (by simp [m172, c219, finR_zero]))

end Go.Proofs.YtkeoalhglkfbkaaDoor

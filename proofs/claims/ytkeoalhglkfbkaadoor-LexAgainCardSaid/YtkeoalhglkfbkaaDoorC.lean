/-
  A run of letters and digits; what a number's letters and digits are worth. No conditions but on sizes.
-/
import Derived.Test.YtkeoalhglkfbkaaDoorB
set_option linter.unusedVariables false
set_option linter.unusedSimpArgs false
namespace Go.Proofs.YtkeoalhglkfbkaaDoor
open Go Hk

def isWord (b : UInt8) : Bool := isLetter b || isDigit b
def runOf (l : List UInt8) : List UInt8 := l.takeWhile isWord

theorem runOf_le (l : List UInt8) : (runOf l).length ≤ l.length := (List.takeWhile_prefix _).length_le
theorem take_run (l : List UInt8) : l.take (runOf l).length = runOf l := by
  unfold runOf
  induction l with
  | nil => rfl
  | cons b l ih => by_cases h : isWord b = true <;> simp [List.takeWhile_cons, h, ih]
theorem runOf_cons {s : List UInt8} {n : Nat} (h : n < s.length) : runOf (s.drop n) = if isWord s[n] then s[n] :: runOf (s.drop (n + 1)) else [] := by
  rw [List.drop_eq_getElem_cons h]; simp only [runOf, List.takeWhile_cons]

/-- The lexer's memory, and a token's. -/
def HT (W : List (AVal × AVal)) (sg : List (List AVal)) (s : List UInt8) (at_ : Int) (out : List (List AVal)) (k p n : Int) (t : List UInt8) : Heap :=
  [.front 0 0, .cells [.int .i64 0, .int .i64 0], .map W, .cells [.str s, .int .i64 at_, .map 2, .slice sg .no, .slice out (.own 4)], .front out.length (frSz out), .cells [.int .i64 k, .int .i64 p, .int .i64 n, .str t]]

theorem trunc_HT {W : List (AVal × AVal)} {sg : List (List AVal)} {s : List UInt8} {at_ : Int} {out : List (List AVal)} {k p n : Int} {t : List UInt8} (hW : W.all (fun e => e.2.shut1 6) = true) :
    trunc 6 [.front 0 0, .cells [.int .i64 0, .int .i64 0], .map W, .cells [.str s, .int .i64 at_, .map 2, .slice sg .no, .slice out (.own 4)], .front out.length (frSz out), .cells [.int .i64 k, .int .i64 p, .int .i64 n, .str t]] =
      some [.front 0 0, .cells [.int .i64 0, .int .i64 0], .map W, .cells [.str s, .int .i64 at_, .map 2, .slice sg .no, .slice out (.own 4)], .front out.length (frSz out), .cells [.int .i64 k, .int .i64 p, .int .i64 n, .str t]] := by
  simp [trunc, sanBlk, hW]

section
variable (W : List (AVal × AVal)) (sg : List (List AVal)) (s : List UInt8) (out : List (List AVal)) (k p q : Int) (t : List UInt8)

theorem m111_loop (hW : W.all (fun e => e.2.shut1 6) = true) (hs : s.length ≤ 65536) (at_ n : Nat) (hn : n ≤ s.length) :
    lpW (m111_l0 KK 6) ([.ptr 3 0, .str [], .int .i64 (n : Nat)], HT W sg s (at_ : Nat) out k p q t) = some (.exit 0, [.ptr 3 0, .str [], .int .i64 (n + (runOf (s.drop n)).length : Nat)], HT W sg s (at_ : Nat) out k p q t) := by
  induction hm : s.length - n using Nat.strongRecOn generalizing n with
  | _ m ih =>
    rw [lpW_step]
    by_cases h : n < s.length
    · have hi : s[n]? = some s[n] := List.getElem?_eq_getElem h
      have h' : (n : Int) < s.length := by omega
      by_cases hw : isWord s[n] = true
      · have w : IntKind.wrap .i64 ((n : Int) + 1) = (n : Int) + 1 := by rw [wrap64] <;> omega
        have step : m111_l0 KK 6 ([.ptr 3 0, .str [], .int .i64 (n : Nat)], HT W sg s (at_ : Nat) out k p q t) = some (.normal, [.ptr 3 0, .str [], .int .i64 (n + 1 : Nat)], HT W sg s (at_ : Nat) out k p q t) := by
          cases hl : isLetter s[n] <;> cases hd : isDigit s[n] <;> simp [isWord, hl, hd] at hw <;>
            simp [m111_l0, HT, h', hi, c110, c112, hl, hd, w, endR, trunc_HT hW, san1_ptr]
        rw [step]
        simp only [Option.bind_some, thenDo_normal]
        rw [ih (s.length - (n + 1)) (by omega) (n + 1) (by omega) rfl, runOf_cons h, hw]
        simp; omega
      · have hwf : isWord s[n] = false := by simpa using hw
        have hl : isLetter s[n] = false := by simp [isWord] at hwf; exact hwf.1
        have hd : isDigit s[n] = false := by simp [isWord] at hwf; exact hwf.2
        rw [runOf_cons h, hwf]
        simp [m111_l0, HT, h', hi, c110, c112, hl, hd, endR, trunc_HT hW, san1_ptr]
    · have h' : ¬ (n : Int) < s.length := by omega
      have : s.drop n = [] := List.drop_eq_nil_of_le (by omega)
      simp [m111_l0, HT, h', this, runOf, endR, trunc_HT hW, san1_ptr]

theorem c111 (hW : W.all (fun e => e.2.shut1 6) = true) (hs : s.length ≤ 65536) (at_ : Nat) (ha : at_ ≤ s.length) :
    KK 111 [.ptr 3 0] (HT W sg s (at_ : Nat) out k p q t) = some (.ret (.str (runOf (s.drop at_))), HT W sg s (at_ : Nat) out k p q t) := by
  refine evW_by (m111_eq _ _ _) ?_
  have hl := m111_loop W sg s out k p q t hW hs at_ at_ ha
  have hrl := runOf_le (s.drop at_)
  simp at hrl
  have hsl := asliceStr_nat (s := s) (lo := some (.int .i64 (at_ : Int))) (hi := some (.int .i64 ((at_ + (runOf (s.drop at_)).length : Nat) : Int))) abound_nat abound_nat (by omega) (by omega)
  rw [show at_ + (runOf (s.drop at_)).length - at_ = (runOf (s.drop at_)).length by omega, take_run] at hsl
  simp only [HT, Int.natCast_add] at hl hsl
  simp [m111, HT, hl, hsl, finR, trunc_HT hW]
end

/-! ### Numbers -/

def valueS (hex : Bool) (b : UInt8) : Option Nat :=
  if isDigit b then some (b.toNat - 48) else if hex && (decide (97 ≤ b.toNat) && decide (b.toNat ≤ 102)) then some (b.toNat - 87) else none

theorem wrap8 {n : Int} (h1 : 0 ≤ n) (h2 : n ≤ 255) : IntKind.wrap .u8 n = n := by
  simp [IntKind.wrap, IntKind.signed, IntKind.bits]; omega

theorem u8_lt (b : UInt8) : b.toNat < 256 := b.toNat_lt

def baseOf (hex : Bool) : Nat := if hex then 16 else 10
theorem c173 (hex : Bool) (b : UInt8) (h : Heap) : KK 173 [by8 b, .int .i64 (baseOf hex : Nat)] h = some (.ret (.tuple [.int .i64 ((valueS hex b).getD 0 : Nat), .bool (valueS hex b).isSome]), h) := by
  refine callP_pure rfl rfl (evW_by (m173_eq _ _ _ _) ?_)
  have hb := u8_lt b
  by_cases hd : isDigit b = true
  · have hr : 48 ≤ b.toNat ∧ b.toNat ≤ 57 := by simpa [isDigit] using hd
    have w1 : IntKind.wrap .u8 ((b.toNat : Int) - 48) = (b.toNat : Int) - 48 := wrap8 (by omega) (by omega)
    have w2 : IntKind.wrap .i64 ((b.toNat : Int) - 48) = ((b.toNat - 48 : Nat) : Int) := by rw [wrap64] <;> omega
    simp [m173, c112, hd, w1, w2, valueS, finR_zero]
  · have hdf : isDigit b = false := by simpa using hd
    have e1 : ((97 : Int) ≤ b.toNat) ↔ 97 ≤ b.toNat := by omega
    have e2 : ((b.toNat : Int) ≤ 102) ↔ b.toNat ≤ 102 := by omega
    cases hex with
    | false => simp [m173, c112, hdf, baseOf, valueS, finR_zero]
    | true =>
      by_cases h1 : 97 ≤ b.toNat <;> by_cases h2 : b.toNat ≤ 102
      · have w1 : IntKind.wrap .u8 ((b.toNat : Int) - 97) = (b.toNat : Int) - 97 := wrap8 (by omega) (by omega)
        have w2 : IntKind.wrap .i64 ((b.toNat : Int) - 97) = (b.toNat : Int) - 97 := by rw [wrap64] <;> omega
        have w3 : IntKind.wrap .i64 ((b.toNat : Int) - 97 + 10) = ((b.toNat - 87 : Nat) : Int) := by rw [wrap64] <;> omega
        simp [m173, c112, hdf, baseOf, valueS, e1, e2, h1, h2, w1, w2, w3, finR_zero]
      all_goals simp [m173, c112, hdf, baseOf, valueS, e1, e2, h1, h2, finR_zero]

def digitsVal (hex : Bool) : List UInt8 → Nat → Option Nat
  | [], n => some n
  | b :: r, n => match valueS hex b with
    | none => none
    | some v => if 4294967295 < baseOf hex * n + v then none else digitsVal hex r (baseOf hex * n + v)

theorem valueS_le {hex : Bool} {b : UInt8} {v : Nat} (h : valueS hex b = some v) : v ≤ 15 := by
  unfold valueS at h
  split at h
  · rename_i hd; cases h; simp [isDigit] at hd; omega
  · split at h
    · rename_i hd; cases h; simp at hd; omega
    · cases h

theorem m113_loop (hex : Bool) (s : List UInt8) (hs : s.length ≤ 65536) (i n : Nat) (hi : i ≤ s.length) (hn : n ≤ 4294967295) :
    ∃ n' j : Nat, lpW (m113_l0 KK 0) ([.str s, .int .i64 0, .bool false, .int .i64 (baseOf hex : Nat), .int .i64 (n : Nat), .int .i64 (s.length : Nat), .int .i64 (i : Nat)], []) =
      some (match digitsVal hex (s.drop i) n with
        | some r => (.exit 0, [.str s, .int .i64 0, .bool false, .int .i64 (baseOf hex : Nat), .int .i64 (r : Nat), .int .i64 (s.length : Nat), .int .i64 (j : Nat)], [])
        | none => (.ret, [.str s, .int .i64 0, .bool false, .int .i64 (baseOf hex : Nat), .int .i64 (n' : Nat), .int .i64 (s.length : Nat), .int .i64 (j : Nat)], [])) := by
  induction hm : s.length - i using Nat.strongRecOn generalizing i n with
  | _ m ih =>
    rw [lpW_step]
    by_cases h : i < s.length
    · have hx : s[i]? = some s[i] := List.getElem?_eq_getElem h
      have h' : (i : Int) < s.length := by omega
      have hb : baseOf hex ≤ 16 := by cases hex <;> simp [baseOf]
      rw [List.drop_eq_getElem_cons h]
      cases hv : valueS hex s[i] with
      | none =>
        refine ⟨n, i, ?_⟩
        simp [m113_l0, h', hx, c173, hv, digitsVal, endR_zero]
      | some v =>
        have hvl := valueS_le hv
        have hprod : baseOf hex * n ≤ 16 * 4294967295 := Nat.mul_le_mul hb hn
        have w1 : IntKind.wrap .i64 ((baseOf hex : Int) * n) = (baseOf hex : Int) * n := by
          rw [wrap64]
          · have := Int.natCast_nonneg (baseOf hex * n); rw [Int.natCast_mul] at this; omega
          · have : ((baseOf hex * n : Nat) : Int) ≤ 16 * 4294967295 := by omega
            rw [Int.natCast_mul] at this; omega
        have w2 : IntKind.wrap .i64 ((baseOf hex : Int) * n + v) = (baseOf hex : Int) * n + v := by
          rw [wrap64]
          · have := Int.natCast_nonneg (baseOf hex * n); rw [Int.natCast_mul] at this; omega
          · have : ((baseOf hex * n : Nat) : Int) ≤ 16 * 4294967295 := by omega
            rw [Int.natCast_mul] at this; omega
        have w3 : IntKind.wrap .i64 ((i : Int) + 1) = (i : Int) + 1 := by rw [wrap64] <;> omega
        by_cases hbig : 4294967295 < baseOf hex * n + v
        · have hbig' : (4294967295 : Int) < (baseOf hex : Int) * n + v := by
            have : (4294967295 : Int) < ((baseOf hex * n + v : Nat) : Int) := by omega
            rwa [Int.natCast_add, Int.natCast_mul] at this
          refine ⟨baseOf hex * n + v, i, ?_⟩
          simp [m113_l0, h', hx, c173, hv, digitsVal, hbig, hbig', w1, w2, endR_zero]
        · have hbig' : ¬ (4294967295 : Int) < (baseOf hex : Int) * n + v := by
            have : ¬ (4294967295 : Int) < ((baseOf hex * n + v : Nat) : Int) := by omega
            rwa [Int.natCast_add, Int.natCast_mul] at this
          obtain ⟨n', j, hl⟩ := ih (s.length - (i + 1)) (by omega) (i + 1) (baseOf hex * n + v) (by omega) (by omega) rfl
          refine ⟨n', j, ?_⟩
          have step : m113_l0 KK 0 ([.str s, .int .i64 0, .bool false, .int .i64 (baseOf hex : Nat), .int .i64 (n : Nat), .int .i64 (s.length : Nat), .int .i64 (i : Nat)], []) =
              some (.normal, [.str s, .int .i64 0, .bool false, .int .i64 (baseOf hex : Nat), .int .i64 (baseOf hex * n + v : Nat), .int .i64 (s.length : Nat), .int .i64 (i + 1 : Nat)], []) := by
            simp [m113_l0, h', hx, c173, hv, hbig', w1, w2, w3, endR_zero]
          rw [step]
          simp only [Option.bind_some, thenDo_normal]
          rw [hl]
          simp only [digitsVal, hv, hbig, if_false]
    · have h' : ¬ (i : Int) < s.length := by omega
      have : s.drop i = [] := List.drop_eq_nil_of_le (by omega)
      refine ⟨n, i, ?_⟩
      simp [m113_l0, h', this, digitsVal, endR_zero]

/-- What a number's text is worth. -/
def numberS (s : List UInt8) : Option Nat :=
  if s.take 2 = [48, 120] then (if s.drop 2 = [] ∨ 8 < (s.drop 2).length then none else digitsVal true (s.drop 2) 0)
  else if s[0]? = some 48 ∧ s ≠ [48] then none else digitsVal false s 0

theorem c113 (s : List UInt8) (hs : s.length ≤ 65536) (h0 : s ≠ []) (h : Heap) : KK 113 [.str s] h = some (.ret (.tuple [.int .i64 ((numberS s).getD 0 : Nat), .bool (numberS s).isSome]), h) := by
  refine callP_pure rfl rfl (evW_by (m113_eq _ _ _) ?_)
  have cut := c172 s [48, 120] []
  by_cases hp : s.take 2 = [48, 120]
  · have hcp : cutPrefix s [48, 120] = (s.drop 2, true) := by simp [cutPrefix, hp]
    rw [hcp] at cut
    have hn : numberS s = if s.drop 2 = [] ∨ 8 < (s.drop 2).length then none else digitsVal true (s.drop 2) 0 := by simp only [numberS, hp, if_true]
    have hrl : (s.drop 2).length ≤ 65536 := by simp; omega
    rw [hn]
    simp only [] at cut
    generalize s.drop 2 = r at *
    by_cases he : r = []
    · subst he
      simp [m113, cut, finR_zero]
    · by_cases hl : 8 < r.length
      · have hl' : (8 : Int) < r.length := by omega
        simp [m113, cut, he, hl, hl', finR_zero]
      · have hl' : ¬ (8 : Int) < r.length := by omega
        obtain ⟨n', j, hloop⟩ := m113_loop true r hrl 0 0 (by omega) (by omega)
        simp only [baseOf, if_true, List.drop_zero, Int.ofNat_eq_natCast, Int.cast_ofNat_Int] at hloop
        cases hd : digitsVal true r 0 with
        | none => rw [hd] at hloop; simp [m113, cut, he, hl, hl', hloop, hd, finR_zero]
        | some v => rw [hd] at hloop; simp [m113, cut, he, hl, hl', hloop, hd, finR_zero]
  · have hcp : cutPrefix s [48, 120] = (s, false) := by simp [cutPrefix, hp]
    rw [hcp] at cut
    simp only [] at cut
    obtain ⟨b, r, hbr⟩ : ∃ b r, s = b :: r := by cases s with | nil => exact absurd rfl h0 | cons b r => exact ⟨b, r, rfl⟩
    have hs0 : s[0]? = some b := by rw [hbr]; rfl
    have hn : numberS s = if s[0]? = some 48 ∧ s ≠ [48] then none else digitsVal false s 0 := by simp only [numberS, hp, if_false]
    obtain ⟨n', j, hloop⟩ := m113_loop false s hs 0 0 (by omega) (by omega)
    simp only [baseOf, Bool.false_eq_true, if_false, List.drop_zero, Int.ofNat_eq_natCast, Int.cast_ofNat_Int] at hloop
    by_cases hb : b = 48
    · subst hb
      by_cases h1 : s = [48]
      · have hn2 : numberS s = digitsVal false s 0 := by rw [hn, if_neg (by simp [h1])]
        rw [hn2]
        have ht : ((48 : UInt8).toNat : Int) = 48 := rfl
        have hd : digitsVal false [48] 0 = some 0 := by decide
        subst h1
        rw [hd] at hloop ⊢
        simp only [List.length_cons, List.length_nil] at hloop
        simp at hloop
        simp [m113, cut, ht, hloop, finR_zero]
      · have hn2 : numberS s = none := by rw [hn, if_pos ⟨hs0, h1⟩]
        rw [hn2]
        have ht : ((48 : UInt8).toNat : Int) = 48 := rfl
        simp [m113, cut, hs0, h1, ht, finR_zero]
    · have hb' : ¬ ((b.toNat : Int) = 48) := fun h => hb (UInt8.toNat_inj.1 (by simpa using (by omega : b.toNat = 48)))
      have hn2 : numberS s = digitsVal false s 0 := by rw [hn, if_neg (by simp [hs0, hb])]
      rw [hn2]
      cases hd : digitsVal false s 0 with
      | none => rw [hd] at hloop; simp [m113, cut, hs0, hb', hloop, finR_zero]
      | some v => rw [hd] at hloop; simp [m113, cut, hs0, hb', hloop, finR_zero]

end Go.Proofs.YtkeoalhglkfbkaaDoor

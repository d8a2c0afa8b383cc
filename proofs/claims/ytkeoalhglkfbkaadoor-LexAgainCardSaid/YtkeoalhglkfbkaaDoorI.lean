/-
  The document's signs and tokens. No conditions but on sizes.
-/
import Derived.Test.YtkeoalhglkfbkaaDoorH
set_option linter.unusedVariables false
set_option linter.unusedSimpArgs false
namespace Go.Proofs.YtkeoalhglkfbkaaDoor
open Go Hk

def twosT : List (List UInt8) := signsT.take 6
def onesT : List (List UInt8) := signsT.drop 6
def list2 : List UInt8 := [32, 60, 60, 32, 62, 62, 32, 61, 61, 32, 33, 61, 32, 60, 61, 32, 62, 61, 32]
def list1 : List UInt8 := [32, 40, 32, 41, 32, 123, 32, 125, 32, 91, 32, 93, 32, 44, 32, 59, 32, 58, 32, 61, 32, 43, 32, 45, 32, 42, 32, 38, 32, 124, 32, 94, 32, 126, 32, 33, 32, 60, 32, 62, 32]
def listW : List UInt8 := [32, 102, 110, 32, 112, 117, 98, 32, 115, 101, 99, 32, 111, 117, 116, 32, 108, 101, 116, 32, 118, 97, 114, 32, 105, 102, 32, 101, 108, 115, 101, 32, 102, 111, 114, 32, 109, 97, 120, 32, 114, 101, 116, 117, 114, 110, 32, 117, 51, 50, 32, 117, 56, 32, 109, 97, 115, 107, 32, 109, 117, 108, 104, 105, 32, 99, 97, 114, 114, 121, 32, 115, 101, 108, 101, 99, 116, 32, 119, 111, 114, 100, 32, 114, 111, 114, 32]

theorem list2_join : list2 = joinB twosT := by decide
theorem list1_join : list1 = joinB onesT := by decide
theorem listW_join : listW = joinB wordsT := by decide

theorem in_two (a b : UInt8) (ha : a ≠ 32) : inB (32 :: ([a, b] ++ [32])) list2 = decide ([a, b] ∈ twosT) := by
  by_cases hb : b = 32
  · subst hb
    have h1 : inB (32 :: ([a, 32] ++ [32])) list2 = false := by simp [inB, list2, List.isPrefixOf]
    have h2 : ¬ [a, 32] ∈ twosT := by simp [twosT, signsT]
    rw [h1, decide_eq_false h2]
  · rw [list2_join]
    refine inB_join [a, b] (by simp [Ne.symm ha, Ne.symm hb]) twosT (by decide)
theorem in_one (a : UInt8) (ha : a ≠ 32) : inB (32 :: ([a] ++ [32])) list1 = decide ([a] ∈ onesT) := by
  rw [list1_join]
  exact inB_join [a] (by simp [Ne.symm ha]) onesT (by decide)
theorem in_word (r : List UInt8) (hr : 32 ∉ r) : inB (32 :: (r ++ [32])) listW = decide (r ∈ wordsT) := by
  rw [listW_join]
  exact inB_join r hr wordsT (by decide)

theorem find_len (l : List UInt8) (k : Nat) : ∀ (T : List (List UInt8)), (∀ x ∈ T, x.length = k) → T.find? (fun x => decide (l.take x.length = x)) = if l.take k ∈ T then some (l.take k) else none
  | [], _ => by simp
  | x :: T, h => by
    have hx := h x (by simp)
    have ih := find_len l k T (fun y hy => h y (by simp [hy]))
    rw [List.find?_cons, hx]
    by_cases he : l.take k = x
    · simp [he]
    · simp only [he, decide_false, ih, List.mem_cons, false_or]

theorem signFrom_eq (l : List UInt8) : signFrom signsT l = if l.take 2 ∈ twosT then l.take 2 else if l.take 1 ∈ onesT then l.take 1 else [] := by
  have h2 := find_len l 2 twosT (by decide)
  have h1 := find_len l 1 onesT (by decide)
  have hs : signsT = twosT ++ onesT := by decide
  unfold signFrom
  rw [hs, List.find?_append, h2, h1]
  by_cases e2 : l.take 2 ∈ twosT <;> by_cases e1 : l.take 1 ∈ onesT <;> simp [e2, e1]

theorem c119_2 (s : List UInt8) (hs : s.length ≤ 65536) (h : Heap) : KK 119 [.str [32, 60, 60, 32, 62, 62, 32, 61, 61, 32, 33, 61, 32, 60, 61, 32, 62, 61, 32], .str s] h = some (.ret (.bool (inB (32 :: (s ++ [32])) list2)), h) := c119 list2 s (by decide) hs h
theorem c119_1 (s : List UInt8) (hs : s.length ≤ 65536) (h : Heap) : KK 119 [.str [32, 40, 32, 41, 32, 123, 32, 125, 32, 91, 32, 93, 32, 44, 32, 59, 32, 58, 32, 61, 32, 43, 32, 45, 32, 42, 32, 38, 32, 124, 32, 94, 32, 126, 32, 33, 32, 60, 32, 62, 32], .str s] h = some (.ret (.bool (inB (32 :: (s ++ [32])) list1)), h) := c119 list1 s (by decide) hs h
theorem c119_W (s : List UInt8) (hs : s.length ≤ 65536) (h : Heap) : KK 119 [.str listW, .str s] h = some (.ret (.bool (inB (32 :: (s ++ [32])) listW)), h) := c119 listW s (by decide) hs h

/-- The longest sign at a place. -/
theorem c117 (s : List UInt8) (hs : s.length ≤ 65536) (at_ : Nat) (ha : at_ < s.length) (hb : s[at_] ≠ 32) (h : Heap) : KK 117 [.str s, .int .i64 (at_ : Nat)] h = some (.ret (.str (signFrom signsT (s.drop at_))), h) := by
  refine callP_pure rfl rfl (evW_by (m117_eq _ _ _ _) ?_)
  rw [signFrom_eq]
  have w2 : IntKind.wrap .i64 ((at_ : Int) + 2) = ((at_ + 2 : Nat) : Int) := by rw [wrap64] <;> omega
  have w1 : IntKind.wrap .i64 ((at_ : Int) + 1) = ((at_ + 1 : Nat) : Int) := by rw [wrap64] <;> omega
  have s1 := asliceStr_nat (s := s) (lo := some (.int .i64 (at_ : Int))) (hi := some (.int .i64 ((at_ + 1 : Nat) : Int))) abound_nat abound_nat (by omega) (by omega)
  rw [show at_ + 1 - at_ = 1 by omega] at s1
  have t1 : (s.drop at_).take 1 = [s[at_]] := by rw [List.drop_eq_getElem_cons ha]; rfl
  have i1 := in_one s[at_] hb
  rw [← t1] at i1
  have l1 : ((s.drop at_).take 1).length ≤ 65536 := by rw [t1]; simp
  by_cases h2 : at_ + 2 ≤ s.length
  · have h2' : ((at_ + 2 : Nat) : Int) ≤ s.length := by omega
    have s2 := asliceStr_nat (s := s) (lo := some (.int .i64 (at_ : Int))) (hi := some (.int .i64 ((at_ + 2 : Nat) : Int))) abound_nat abound_nat (by omega) h2
    rw [show at_ + 2 - at_ = 2 by omega] at s2
    have h3 : at_ + 1 < s.length := by omega
    have t2 : (s.drop at_).take 2 = [s[at_], s[at_ + 1]] := by rw [List.drop_eq_getElem_cons ha, List.drop_eq_getElem_cons h3]; rfl
    have i2 := in_two s[at_] s[at_ + 1] hb
    rw [← t2] at i2
    have l2 : ((s.drop at_).take 2).length ≤ 65536 := by rw [t2]; simp
    generalize (s.drop at_).take 2 = x2 at *
    generalize (s.drop at_).take 1 = x1 at *
    simp only [Int.natCast_add, Int.cast_ofNat_Int] at w1 w2 s1 s2 h2'
    by_cases e2 : x2 ∈ twosT
    · simp [m117, w1, w2, h2', s2, c119_2 _ l2, i2, e2, finR_zero]
    · by_cases e1 : x1 ∈ onesT
      · simp [m117, w1, w2, h2', s1, s2, c119_2 _ l2, i2, e2, c119_1 _ l1, i1, e1, finR_zero]
      · simp [m117, w1, w2, h2', s1, s2, c119_2 _ l2, i2, e2, c119_1 _ l1, i1, e1, finR_zero]
  · have h2' : ¬ ((at_ + 2 : Nat) : Int) ≤ s.length := by omega
    have e2 : ¬ (s.drop at_).take 2 ∈ twosT := by
      have hlen : ((s.drop at_).take 2).length = 1 := by simp; omega
      intro hm
      have : ∀ x ∈ twosT, x.length = 2 := by decide
      have := this _ hm
      omega
    rw [if_neg e2]
    generalize (s.drop at_).take 1 = x1 at *
    simp only [Int.natCast_add, Int.cast_ofNat_Int] at w1 w2 s1 h2'
    by_cases e1 : x1 ∈ onesT
    · simp [m117, w1, w2, h2', s1, c119_1 _ l1, i1, e1, finR_zero]
    · simp [m117, w1, w2, h2', s1, c119_1 _ l1, i1, e1, finR_zero]

/-! ### One token -/

def H2 (k p q : Int) (t : List UInt8) : Heap := [.cells [.int .i64 0, .int .i64 0, .int .i64 0, .str []], .cells [.int .i64 k, .int .i64 p, .int .i64 q, .str t]]
theorem trunc_H2 {k p q : Int} {t : List UInt8} : trunc 2 [.cells [.int .i64 0, .int .i64 0, .int .i64 0, .str []], .cells [.int .i64 k, .int .i64 p, .int .i64 q, .str t]] =
    some [.cells [.int .i64 0, .int .i64 0, .int .i64 0, .str []], .cells [.int .i64 k, .int .i64 p, .int .i64 q, .str t]] := by simp [trunc]

theorem m57_loop (s : List UInt8) (hs : s.length ≤ 65536) (at_ n : Nat) (hn : n ≤ s.length) (k p q : Int) (t : List UInt8) :
    lpW (m57_l0 KK 2) ([.str s, .int .i64 (at_ : Nat), .ptr 0 0, .int .i64 0, .ptr 1 0, .int .i64 (n : Nat)], H2 k p q t) =
      some (.exit 0, [.str s, .int .i64 (at_ : Nat), .ptr 0 0, .int .i64 0, .ptr 1 0, .int .i64 (n + (runOf (s.drop n)).length : Nat)], H2 k p q t) := by
  induction hm : s.length - n using Nat.strongRecOn generalizing n with
  | _ m ih =>
    rw [lpW_step]
    by_cases h : n < s.length
    · have hi : s[n]? = some s[n] := List.getElem?_eq_getElem h
      have h' : (n : Int) < s.length := by omega
      by_cases hw : isWord s[n] = true
      · have w : IntKind.wrap .i64 ((n : Int) + 1) = (n : Int) + 1 := by rw [wrap64] <;> omega
        have step : m57_l0 KK 2 ([.str s, .int .i64 (at_ : Nat), .ptr 0 0, .int .i64 0, .ptr 1 0, .int .i64 (n : Nat)], H2 k p q t) =
            some (.normal, [.str s, .int .i64 (at_ : Nat), .ptr 0 0, .int .i64 0, .ptr 1 0, .int .i64 (n + 1 : Nat)], H2 k p q t) := by
          cases hl : isLetter s[n] <;> cases hd : isDigit s[n] <;> simp [isWord, hl, hd] at hw <;>
            simp [m57_l0, H2, h', hi, c115, c116, hl, hd, w, endR, trunc_H2, san1_ptr]
        rw [step]
        simp only [Option.bind_some, thenDo_normal]
        rw [ih (s.length - (n + 1)) (by omega) (n + 1) (by omega) rfl, runOf_cons h, hw]
        simp; omega
      · have hwf : isWord s[n] = false := by simpa using hw
        have hl : isLetter s[n] = false := by simp [isWord] at hwf; exact hwf.1
        have hd : isDigit s[n] = false := by simp [isWord] at hwf; exact hwf.2
        rw [runOf_cons h, hwf]
        simp [m57_l0, H2, h', hi, c115, c116, hl, hd, endR, trunc_H2, san1_ptr]
    · have h' : ¬ (n : Int) < s.length := by omega
      have : s.drop n = [] := List.drop_eq_nil_of_le (by omega)
      simp [m57_l0, H2, h', this, runOf, endR, trunc_H2, san1_ptr]

theorem run_words (l : List UInt8) : ∀ b ∈ runOf l, isWord b = true := by
  unfold runOf
  induction l with
  | nil => simp
  | cons c l ih =>
    intro b hb
    by_cases hc : isWord c = true
    · rw [List.takeWhile_cons, hc] at hb
      rcases List.mem_cons.1 hb with rfl | hb
      · exact hc
      · exact ih b hb
    · rw [List.takeWhile_cons] at hb; simp [hc] at hb
theorem run_no_blank (l : List UInt8) : (32 : UInt8) ∉ runOf l := fun h => by
  have := run_words l 32 h
  simp [isWord, isLetter, isDigit] at this

theorem digit_no_letter {b : UInt8} (h : isDigit b = true) : isLetter b = false := by
  simp [isDigit] at h
  simp [isLetter]
  omega

/-- The token at a place; 0 bytes: there is none. -/
theorem c57 (s : List UInt8) (hs : s.length ≤ 65536) (at_ : Nat) (ha : at_ < s.length) (hb : s[at_] ≠ 32) :
    ∃ (k p q : Int) (t : List UInt8) (n : Nat), (∀ h, KK 57 [.str s, .int .i64 (at_ : Nat)] h = some (.ret (.tuple [.agg [.int .i64 k, .int .i64 p, .int .i64 q, .str t], .int .i64 (n : Nat)]), h)) ∧
      match oneS (s.drop at_) at_ with
      | some (u, m) => [AVal.int .i64 k, .int .i64 p, .int .i64 q, .str t] = u.cells ∧ n = m
      | none => n = 0 := by
  have hi : s[at_]? = some s[at_] := List.getElem?_eq_getElem ha
  have hcons := List.drop_eq_getElem_cons ha
  have hrl := runOf_le (s.drop at_)
  simp only [List.length_drop] at hrl
  have hone : oneS (s.drop at_) at_ = if isLetter s[at_] then (if 40 < (runOf (s.drop at_)).length then none else some (⟨if runOf (s.drop at_) ∈ wordsT then 3 else 1, at_, 0, runOf (s.drop at_)⟩, (runOf (s.drop at_)).length))
    else if isDigit s[at_] then (match numberS (runOf (s.drop at_)) with | none => none | some n => some (⟨2, at_, n, []⟩, (runOf (s.drop at_)).length))
    else if signFrom signsT (s.drop at_) = [] then none else some (⟨4, at_, 0, signFrom signsT (s.drop at_)⟩, (signFrom signsT (s.drop at_)).length) := by
    rw [hcons]; rfl
  rw [hone]
  have hloop := fun k p q t => m57_loop s hs at_ at_ (Nat.le_of_lt ha) k p q t
  have hsl := asliceStr_nat (s := s) (lo := some (.int .i64 (at_ : Int))) (hi := some (.int .i64 ((at_ + (runOf (s.drop at_)).length : Nat) : Int))) abound_nat abound_nat (by omega) (by omega)
  rw [show at_ + (runOf (s.drop at_)).length - at_ = (runOf (s.drop at_)).length by omega, take_run] at hsl
  have hW := c119_W (runOf (s.drop at_)) (by omega)
  rw [in_word _ (run_no_blank _)] at hW
  have hnum := c118 (runOf (s.drop at_)) (by omega)
  have hr0 : isWord s[at_] = true → runOf (s.drop at_) ≠ [] := fun h => by rw [runOf_cons ha, h]; simp
  have h117 := c117 s hs at_ ha hb
  generalize runOf (s.drop at_) = r at *
  generalize signFrom signsT (s.drop at_) = x at *
  have ws : IntKind.wrap .i64 ((at_ : Int) + r.length - at_) = r.length := by rw [wrap64] <;> omega
  simp only [H2, Int.natCast_add] at hloop hsl
  simp only [listW] at hW
  by_cases hl : isLetter s[at_] = true
  · have hd : isDigit s[at_] = false := by
      cases hd : isDigit s[at_] with
      | false => rfl
      | true => rw [digit_no_letter hd] at hl; cases hl
    by_cases h40 : 40 < r.length
    · have h40' : (40 : Int) < r.length := by omega
      refine ⟨if r ∈ wordsT then 3 else 1, at_, 0, r, 0, fun h => callP_pure rfl rfl (evW_by (m57_eq _ _ _ _) ?_), by simp [hl, h40]⟩
      by_cases hm : r ∈ wordsT <;>
        simp [m57, hi, abuild, anew, tokCells, putCells, c115, c116, hl, hd, hloop, hsl, hW, hm, ws, h40', hide, hide1, lockIds, addrId, unhide, unhide1, finR_zero]
    · have h40' : ¬ (40 : Int) < r.length := by omega
      refine ⟨if r ∈ wordsT then 3 else 1, at_, 0, r, r.length, fun h => callP_pure rfl rfl (evW_by (m57_eq _ _ _ _) ?_), ?_⟩
      · by_cases hm : r ∈ wordsT <;>
          simp [m57, hi, abuild, anew, tokCells, putCells, c115, c116, hl, hd, hloop, hsl, hW, hm, ws, h40', hide, hide1, lockIds, addrId, unhide, unhide1, finR_zero]
      · by_cases hm : r ∈ wordsT <;> simp [hl, h40, hm, Token.cells]
  · have hlf : isLetter s[at_] = false := by simpa using hl
    by_cases hd : isDigit s[at_] = true
    · have hr := hr0 (by simp [isWord, hd])
      have hn := hnum hr
      cases hv : numberS r with
      | none =>
        have hnI : numI r = -1 := by simp [numI, hv]
        rw [hnI] at hn
        refine ⟨2, at_, -1, [], 0, fun h => callP_pure rfl rfl (evW_by (m57_eq _ _ _ _) ?_), by simp [hlf, hd]⟩
        simp [m57, hi, abuild, anew, tokCells, putCells, c115, c116, hlf, hd, hloop, hsl, hn, hide, hide1, lockIds, addrId, unhide, unhide1, finR_zero]
      | some v =>
        have hnI : numI r = v := by simp [numI, hv]
        rw [hnI] at hn
        have hneg : ¬ (v : Int) < 0 := by omega
        refine ⟨2, at_, v, [], r.length, fun h => callP_pure rfl rfl (evW_by (m57_eq _ _ _ _) ?_), by simp [hlf, hd, Token.cells]⟩
        simp [m57, hi, abuild, anew, tokCells, putCells, c115, c116, hlf, hd, hloop, hsl, hn, hneg, ws, hide, hide1, lockIds, addrId, unhide, unhide1, finR_zero]
    · have hdf : isDigit s[at_] = false := by simpa using hd
      refine ⟨4, at_, 0, x, x.length, fun h => callP_pure rfl rfl (evW_by (m57_eq _ _ _ _) ?_), ?_⟩
      · simp [m57, hi, abuild, anew, tokCells, putCells, c115, c116, hlf, hdf, h117, hide, hide1, lockIds, addrId, unhide, unhide1, finR_zero]
      · by_cases hx : x = []
        · simp [hlf, hdf, hx]
        · simp [hlf, hdf, hx, Token.cells]

end Go.Proofs.YtkeoalhglkfbkaaDoor

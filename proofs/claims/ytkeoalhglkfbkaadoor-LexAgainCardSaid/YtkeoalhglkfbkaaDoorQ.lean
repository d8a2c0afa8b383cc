/-
  THE PLAIN LAW: tokens written with a blank behind each are those tokens. No program in sight. No conditions.
-/
import Derived.Test.YtkeoalhglkfbkaaDoorP
set_option linter.unusedVariables false
set_option linter.unusedSimpArgs false
namespace Go.Proofs.YtkeoalhglkfbkaaDoor
open Go Hk

/-! ### Decimals -/
def digs (n : Nat) (acc : List UInt8) : List UInt8 := if n = 0 then acc else digs (n / 10) (UInt8.ofNat (48 + n % 10) :: acc)
termination_by n
decreasing_by omega
def decS (n : Nat) : List UInt8 := if n = 0 then [48] else digs n []

theorem dig_toNat (n : Nat) : (UInt8.ofNat (48 + n % 10)).toNat = 48 + n % 10 := by
  rw [UInt8.toNat_ofNat']; omega
theorem dig_is (n : Nat) : isDigit (UInt8.ofNat (48 + n % 10)) = true := by
  unfold isDigit; rw [dig_toNat]; simp; omega
theorem dig_val (n : Nat) : valueS false (UInt8.ofNat (48 + n % 10)) = some (n % 10) := by
  unfold valueS; rw [if_pos (dig_is n), dig_toNat]; congr 1; omega

theorem digs_val (n : Nat) : ∀ acc, n ≤ 4294967295 → digitsVal false (digs n acc) 0 = digitsVal false acc n := by
  induction n using Nat.strongRecOn with
  | _ n ih =>
    intro acc hn
    rw [digs]
    by_cases h : n = 0
    · rw [if_pos h, h]
    · rw [if_neg h, ih (n / 10) (by omega) _ (by omega)]
      simp only [digitsVal, dig_val]
      have e : baseOf false * (n / 10) + n % 10 = n := by simp only [baseOf]; simp; omega
      rw [e, if_neg (by omega)]
theorem digs_all (n : Nat) : ∀ acc, (∀ b ∈ acc, isDigit b = true) → ∀ b ∈ digs n acc, isDigit b = true := by
  induction n using Nat.strongRecOn with
  | _ n ih =>
    intro acc ha
    rw [digs]
    by_cases h : n = 0
    · rw [if_pos h]; exact ha
    · rw [if_neg h]
      refine ih (n / 10) (by omega) _ ?_
      intro b hb
      rcases List.mem_cons.1 hb with rfl | hb
      · exact dig_is n
      · exact ha b hb
theorem digs_head (n : Nat) : ∀ acc, n ≠ 0 → ∃ c r, digs n acc = c :: r ∧ c ≠ 48 := by
  induction n using Nat.strongRecOn with
  | _ n ih =>
    intro acc h
    rw [digs, if_neg h]
    by_cases h2 : n / 10 = 0
    · rw [digs, if_pos h2]
      refine ⟨_, _, rfl, fun e => ?_⟩
      have := congrArg UInt8.toNat e
      rw [dig_toNat] at this
      simp at this
      omega
    · exact ih (n / 10) (by omega) _ h2
theorem decS_all (n : Nat) : ∀ b ∈ decS n, isDigit b = true := by
  unfold decS
  split
  · intro b hb
    obtain rfl : b = 48 := (by simpa using hb)
    decide
  · exact digs_all n [] (by simp)
theorem decS_ne (n : Nat) : ∃ c r, decS n = c :: r := by
  unfold decS
  split
  · exact ⟨_, _, rfl⟩
  · obtain ⟨c, r, h, _⟩ := digs_head n [] (by assumption); exact ⟨c, r, h⟩
theorem digit_120 : isDigit 120 = false := by decide
theorem numberS_dec (n : Nat) (hn : n ≤ 4294967295) : numberS (decS n) = some n := by
  have hall := decS_all n
  have h2 : ¬ (decS n).take 2 = [48, 120] := by
    intro h
    have : (120 : UInt8) ∈ (decS n).take 2 := by rw [h]; simp
    have := hall _ (List.mem_of_mem_take this)
    rw [digit_120] at this; cases this
  unfold numberS
  rw [if_neg h2]
  unfold decS
  by_cases h : n = 0
  · rw [if_pos h, if_neg (by simp), h]; decide
  · rw [if_neg h]
    obtain ⟨c, r, e, hc⟩ := digs_head n [] h
    rw [if_neg (by rw [e]; simp [hc]), digs_val n [] hn]
    rfl
theorem run_digits : ∀ (d r : List UInt8), (∀ b ∈ d, isDigit b = true) → runOf (d ++ 32 :: r) = d
  | [], r, _ => by
    have : isWord 32 = false := by decide
    simp [runOf, List.takeWhile_cons, this]
  | b :: d, r, h => by
    have hb : isWord b = true := by simp [isWord, h b (by simp)]
    have ih := run_digits d r (fun x hx => h x (by simp [hx]))
    unfold runOf at ih ⊢
    simp [List.takeWhile_cons, hb, ih]
theorem run_words2 : ∀ (d r : List UInt8), (∀ b ∈ d, isWord b = true) → runOf (d ++ 32 :: r) = d
  | [], r, _ => by
    have : isWord 32 = false := by decide
    simp [runOf, List.takeWhile_cons, this]
  | b :: d, r, h => by
    have ih := run_words2 d r (fun x hx => h x (by simp [hx]))
    unfold runOf at ih ⊢
    simp [List.takeWhile_cons, h b (by simp), ih]
theorem val_le (hex : Bool) : ∀ (l : List UInt8) (n r : Nat), n ≤ 4294967295 → digitsVal hex l n = some r → r ≤ 4294967295
  | [], n, r, hn, h => by simp only [digitsVal, Option.some.injEq] at h; omega
  | b :: l, n, r, hn, h => by
    simp only [digitsVal] at h
    split at h
    · cases h
    · split at h
      · cases h
      · exact val_le hex l _ r (by omega) h
theorem numberS_le {l : List UInt8} {n : Nat} (h : numberS l = some n) : n ≤ 4294967295 := by
  unfold numberS at h
  split at h
  · split at h
    · cases h
    · exact val_le true _ 0 n (by omega) h
  · split at h
    · cases h
    · exact val_le false _ 0 n (by omega) h

/-! ### A token written -/
def written (x : Token) : List UInt8 := if x.kind = 2 then decS x.num else x.text
def moved (x : Token) (p : Nat) : Token := { x with pos := p }
def Good (x : Token) : Prop := x.kind ≠ 0 ∧ x.num ≤ 4294967295 ∧ x.text.length ≤ 65536 ∧ (∃ b r, written x = b :: r ∧ isBlank b = false ∧ b ≠ 47) ∧ ∀ rest p, oneS (written x ++ 32 :: rest) p = some (moved x p, (written x).length)

theorem letter_ok {b : UInt8} (h : isLetter b = true) : isBlank b = false ∧ b ≠ 47 := by
  constructor
  · simp [isLetter, isBlank] at h ⊢; omega
  · rintro rfl; revert h; decide
theorem digit_ok {b : UInt8} (h : isDigit b = true) : isBlank b = false ∧ b ≠ 47 := by
  constructor
  · simp [isDigit, isBlank] at h ⊢; omega
  · rintro rfl; revert h; decide

theorem signs_len : ∀ x ∈ signsT, x.length ≤ 2 ∧ ∃ b r, x = b :: r ∧ isBlank b = false ∧ b ≠ 47 ∧ isLetter b = false ∧ isDigit b = false := by
  intro x hx
  have : signsT.all (fun x => decide (x.length ≤ 2) && (match x with | [] => false | b :: _ => !isBlank b && decide (b ≠ 47) && !isLetter b && !isDigit b)) = true := by decide
  have h := List.all_eq_true.1 this x hx
  cases x with
  | nil => simp at h
  | cons b r =>
    simp only [Bool.and_eq_true, decide_eq_true_eq, Bool.not_eq_true'] at h
    exact ⟨h.1, b, r, rfl, h.2.1.1.1, h.2.1.1.2, h.2.1.2, h.2.2⟩
theorem sign_mem {l : List UInt8} (h : signFrom signsT l ≠ []) : signFrom signsT l ∈ signsT ∧ l.take (signFrom signsT l).length = signFrom signsT l := by
  unfold signFrom at h ⊢
  cases hf : signsT.find? (fun x => decide (l.take x.length = x)) with
  | none => rw [hf] at h; exact absurd rfl h
  | some x =>
    simp only [Option.getD_some]
    exact ⟨List.mem_of_find?_eq_some hf, by simpa using List.find?_some hf⟩
theorem sign_again {x : List UInt8} (hx : x ∈ signsT) (rest : List UInt8) : signFrom signsT (x ++ 32 :: rest) = x := by
  rw [signFrom_eq]
  have hs : signsT = twosT ++ onesT := by decide
  rw [hs] at hx
  rcases List.mem_append.1 hx with h | h
  · have hl : x.length = 2 := (by decide : ∀ y ∈ twosT, y.length = 2) x h
    have e : (x ++ 32 :: rest).take 2 = x := by rw [← hl]; simp
    rw [e, if_pos h]
  · have hl : x.length = 1 := (by decide : ∀ y ∈ onesT, y.length = 1) x h
    have e : (x ++ 32 :: rest).take 1 = x := by rw [← hl]; simp
    have e2 : (x ++ 32 :: rest).take 2 = x ++ [32] := by
      match x, hl with
      | [b], _ => rfl
    have h2 : ¬ x ++ [32] ∈ twosT := by
      intro h3
      have := (by decide : ∀ y ∈ twosT, (32 : UInt8) ∉ y) _ h3
      simp at this
    rw [e, e2, if_neg h2, if_pos h]

theorem good_of {d : List UInt8} {a n : Nat} {x : Token} (h : oneS d a = some (x, n)) : Good x ∧ (x.kind ≠ 2 → d.take x.text.length = x.text) := by
  unfold oneS at h
  cases d with
  | nil => cases h
  | cons b r =>
    simp only [] at h
    by_cases h1 : isLetter b = true
    · rw [if_pos h1] at h
      have hrun : runOf (b :: r) = b :: runOf r := by simp [runOf, List.takeWhile_cons, isWord, h1]
      have hw := run_words (b :: r)
      have htk := take_run (b :: r)
      split at h
      · cases h
      · rename_i h40
        simp only [Option.some.injEq, Prod.mk.injEq] at h
        obtain ⟨rfl, _⟩ := h
        have hk2 : ¬ (if runOf (b :: r) ∈ wordsT then 3 else 1) = 2 := by split <;> omega
        have hwr : written ⟨if runOf (b :: r) ∈ wordsT then 3 else 1, a, 0, runOf (b :: r)⟩ = runOf (b :: r) := by unfold written; rw [if_neg hk2]
        obtain ⟨o1, o2⟩ := letter_ok h1
        refine ⟨⟨by show (if _ then _ else _) ≠ _; split <;> omega, Nat.zero_le _, by show (runOf (b :: r)).length ≤ _; omega, ⟨b, runOf r, by rw [hwr, hrun], o1, o2⟩, fun rest p => ?_⟩, fun _ => htk⟩
        rw [hwr]
        have hag := run_words2 (runOf (b :: r)) rest hw
        generalize runOf (b :: r) = w at *
        subst hrun
        unfold oneS
        simp only [List.cons_append] at hag ⊢
        rw [if_pos h1]
        simp only [hag]
        rw [if_neg h40]
        rfl
    · rw [if_neg h1] at h
      by_cases h2 : isDigit b = true
      · rw [if_pos h2] at h
        split at h
        · cases h
        · rename_i m hm
          simp only [Option.some.injEq, Prod.mk.injEq] at h
          obtain ⟨rfl, _⟩ := h
          have hm' := numberS_le hm
          have hwr : written ⟨2, a, m, []⟩ = decS m := by unfold written; rw [if_pos rfl]
          obtain ⟨c, q, hc⟩ := decS_ne m
          have hcd : isDigit c = true := decS_all m c (by rw [hc]; simp)
          obtain ⟨o1, o2⟩ := digit_ok hcd
          refine ⟨⟨by show (2 : Nat) ≠ 0; decide, hm', by simp, ⟨c, q, by rw [hwr, hc], o1, o2⟩, fun rest p => ?_⟩, fun hk => absurd rfl hk⟩
          rw [hwr]
          have hag := run_digits (decS m) rest (decS_all m)
          have hnum := numberS_dec m hm'
          rw [hc] at hag hnum ⊢
          unfold oneS
          simp only [List.cons_append] at hag ⊢
          rw [if_neg (by rw [digit_no_letter hcd]; decide), if_pos hcd, hag, hnum]
          rfl
      · rw [if_neg h2] at h
        split at h
        · cases h
        · rename_i h3
          simp only [Option.some.injEq, Prod.mk.injEq] at h
          obtain ⟨rfl, _⟩ := h
          obtain ⟨hm, htk⟩ := sign_mem h3
          obtain ⟨hl, c, q, hc, o1, o2, o3, o4⟩ := signs_len _ hm
          have hwr : written ⟨4, a, 0, signFrom signsT (b :: r)⟩ = signFrom signsT (b :: r) := by unfold written; rw [if_neg (by show ¬ (4 : Nat) = 2; decide)]
          refine ⟨⟨by show (4 : Nat) ≠ 0; decide, Nat.zero_le _, by show (signFrom signsT (b :: r)).length ≤ _; omega, ⟨c, q, by rw [hwr, hc], o1, o2⟩, fun rest p => ?_⟩, fun _ => htk⟩
          rw [hwr]
          have hag := sign_again hm rest
          generalize signFrom signsT (b :: r) = w at *
          subst hc
          unfold oneS
          simp only [List.cons_append] at hag ⊢
          rw [if_neg (by rw [o3]; decide), if_neg (by rw [o4]; decide), hag, if_neg (by simp)]
          rfl

/-! ### All of them -/
def writeAll : List Token → List UInt8
  | [] => []
  | x :: l => written x ++ 32 :: writeAll l
def placed : Nat → List Token → List Token
  | _, [] => []
  | p, x :: l => moved x p :: placed (p + ((written x).length + 1)) l

theorem relex : ∀ (l : List Token), (∀ x ∈ l, Good x) → ∀ (pre : List UInt8) (out : List Token),
    lexFrom (pre ++ writeAll l) pre.length out = (out ++ placed pre.length l ++ [⟨0, (pre ++ writeAll l).length, 0, []⟩], 0, 0)
  | [], _, pre, out => by
    rw [lex_end (by rw [skipTo, dif_neg (by simp [writeAll])]; simp [writeAll])]
    simp [placed]
  | x :: l, h, pre, out => by
    obtain ⟨_, _, _, ⟨b, r, hw, o1, o2⟩, hone⟩ := h x (by simp)
    have ih := relex l (fun y hy => h y (by simp [hy])) (pre ++ (written x ++ [32])) (out ++ [moved x pre.length])
    have e : pre ++ (written x ++ [32]) ++ writeAll l = pre ++ writeAll (x :: l) := by simp [writeAll]
    have el : (pre ++ (written x ++ [32])).length = pre.length + ((written x).length + 1) := by simp
    rw [e, el] at ih
    have hlen : pre.length + (written x).length < (pre ++ writeAll (x :: l)).length := by simp [writeAll]
    have hsk : skipTo (pre ++ writeAll (x :: l)) pre.length = pre.length := by
      refine skip_here (b := b) ?_ o1 o2
      rw [List.getElem?_append_right (Nat.le_refl _)]
      simp [writeAll, hw]
    have hd : (pre ++ writeAll (x :: l)).drop pre.length = written x ++ 32 :: writeAll l := by simp [writeAll]
    have hwl : 1 ≤ (written x).length := by rw [hw]; simp
    have step := lex_step (s := pre ++ writeAll (x :: l)) (out := out) hsk (by omega) (t := moved x pre.length) (n := (written x).length) (by rw [hd]; exact hone _ _) (a2 := pre.length + (written x).length) (by omega)
    rw [step]
    have hskip : skipTo (pre ++ writeAll (x :: l)) (pre.length + (written x).length) = skipTo (pre ++ writeAll (x :: l)) (pre.length + ((written x).length + 1)) := by
      rw [skipTo, dif_pos hlen]
      have hg : (pre ++ writeAll (x :: l))[pre.length + (written x).length] = 32 := by
        have : (pre ++ writeAll (x :: l))[pre.length + (written x).length]? = some 32 := by
          rw [List.getElem?_append_right (by omega), Nat.add_sub_cancel_left]
          simp [writeAll]
        rw [List.getElem?_eq_getElem hlen] at this
        exact Option.some.inj this
      rw [hg, if_pos (by decide)]
      rfl
    have hsame : lexFrom (pre ++ writeAll (x :: l)) (pre.length + (written x).length) (out ++ [moved x pre.length]) = lexFrom (pre ++ writeAll (x :: l)) (pre.length + ((written x).length + 1)) (out ++ [moved x pre.length]) := by
      rw [lexFrom.eq_1 _ (pre.length + (written x).length), lexFrom.eq_1 _ (pre.length + ((written x).length + 1))]
      simp only [hskip]
    rw [hsame, ih]
    simp [placed]
end Go.Proofs.YtkeoalhglkfbkaaDoor

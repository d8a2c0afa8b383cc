/-
  THE PLAIN LAW: the tokens of two texts with a line's end between. No program in sight. No conditions.
-/
import Derived.Test.YtkeoalhglkfbkaaDoorK
set_option linter.unusedVariables false
set_option linter.unusedSimpArgs false
namespace Go.Proofs.YtkeoalhglkfbkaaDoor
open Go Hk

theorem drop_join {s t : List UInt8} {a : Nat} (ha : a ≤ s.length) : (s ++ 10 :: t).drop a = s.drop a ++ 10 :: t := List.drop_append_of_le_length ha
theorem get_join {s t : List UInt8} {a : Nat} (ha : a < s.length) (hb : a < (s ++ 10 :: t).length) : (s ++ 10 :: t)[a] = s[a] := List.getElem_append_left ha

theorem lineLen_join (t : List UInt8) : ∀ d : List UInt8, lineLen (d ++ 10 :: t) = lineLen d
  | [] => by simp [lineLen, List.takeWhile_cons]
  | b :: d => by
    have ih := lineLen_join t d
    unfold lineLen at ih ⊢
    by_cases h : b = 10
    · subst h; simp [List.takeWhile_cons]
    · simp [List.takeWhile_cons, h, ih]
theorem runOf_join (t : List UInt8) : ∀ d : List UInt8, runOf (d ++ 10 :: t) = runOf d
  | [] => by
    have : isWord 10 = false := by decide
    simp [runOf, List.takeWhile_cons, this]
  | b :: d => by
    have ih := runOf_join t d
    unfold runOf at ih ⊢
    by_cases h : isWord b = true
    · simp [List.takeWhile_cons, h, ih]
    · simp [List.takeWhile_cons, h]
theorem two_join {d t : List UInt8} {x y : UInt8} (hd : d ≠ []) (hy : y ≠ 10) : (d ++ 10 :: t).take 2 = [x, y] ↔ d.take 2 = [x, y] := by
  match d, hd with
  | [b], _ => simp [Ne.symm hy]
  | b :: c :: r, _ => simp
theorem sign_join {d t : List UInt8} (hd : d ≠ []) : signFrom signsT (d ++ 10 :: t) = signFrom signsT d := by
  rw [signFrom_eq, signFrom_eq]
  match d, hd with
  | [b], _ =>
    have h1 : ¬ [b, 10] ∈ twosT := by simp [twosT, signsT]
    have h2 : ¬ [b] ∈ twosT := by simp [twosT, signsT]
    by_cases h3 : [b] ∈ onesT <;> simp [h1, h2, h3]
  | b :: c :: r, _ => by_cases h1 : [b, c] ∈ twosT <;> by_cases h3 : [b] ∈ onesT <;> simp [h1, h3]
theorem oneS_join {d t : List UInt8} (hd : d ≠ []) (a : Nat) : oneS (d ++ 10 :: t) a = oneS d a := by
  have h1 := runOf_join t d
  have h2 := sign_join (t := t) hd
  match d, hd with
  | b :: r, _ =>
    simp only [List.cons_append] at h1 h2 ⊢
    simp only [oneS, h1, h2]

def shiftT (k : Nat) (t : Token) : Token := { t with pos := t.pos + k }
theorem oneS_shift (l : List UInt8) (a k : Nat) : oneS l (k + a) = (oneS l a).map fun x => (shiftT k x.1, x.2) := by
  unfold oneS
  cases l with
  | nil => rfl
  | cons b r =>
    simp only []
    by_cases h1 : isLetter b = true
    · by_cases h2 : 40 < (runOf (b :: r)).length <;> simp [h1, h2, shiftT, Nat.add_comm]
    · by_cases h2 : isDigit b = true
      · cases h3 : numberS (runOf (b :: r)) <;> simp [h1, h2, shiftT, Nat.add_comm]
      · by_cases h3 : signFrom signsT (b :: r) = [] <;> simp [h1, h2, h3, shiftT, Nat.add_comm]

/-- Blanks and comments, with a line's end behind. -/
theorem skip_join (s t : List UInt8) (a : Nat) (ha : a ≤ s.length) :
    (skipTo s a < s.length → skipTo (s ++ 10 :: t) a = skipTo s a) ∧ (¬ skipTo s a < s.length → skipTo (s ++ 10 :: t) a = skipTo (s ++ 10 :: t) (s.length + 1)) := by
  induction hm : s.length - a using Nat.strongRecOn generalizing a with
  | _ m ih =>
    have hlen : (s ++ 10 :: t).length = s.length + (t.length + 1) := by simp
    by_cases hlt : a < s.length
    · have hb : a < (s ++ 10 :: t).length := by omega
      rw [skipTo, dif_pos hlt, skipTo.eq_1 (s ++ 10 :: t) a, dif_pos hb, get_join hlt hb]
      have hd : s.drop a ≠ [] := by intro h; have := congrArg List.length h; simp at this; omega
      have h2 : ((s ++ 10 :: t).drop a).take 2 = [47, 47] ↔ (s.drop a).take 2 = [47, 47] := by
        rw [drop_join ha]; exact two_join hd (by decide)
      by_cases h1 : isBlank s[a] = true
      · rw [if_pos h1, if_pos h1]
        exact ih (s.length - (a + 1)) (by omega) (a + 1) (by omega) rfl
      · rw [if_neg h1, if_neg h1]
        by_cases h3 : (s.drop a).take 2 = [47, 47]
        · rw [if_pos h3, if_pos (h2.2 h3), drop_join ha, lineLen_join]
          have h4 := lineLen_le (s.drop a)
          have h5 := line_two h3
          simp only [List.length_drop] at h4
          exact ih (s.length - (a + max 1 (lineLen (s.drop a)))) (by omega) _ (by omega) rfl
        · rw [if_neg h3, if_neg (fun h => h3 (h2.1 h))]
          exact ⟨fun _ => rfl, fun h => absurd hlt h⟩
    · have he : a = s.length := by omega
      subst he
      have h0 : skipTo s s.length = s.length := by rw [skipTo, dif_neg hlt]
      rw [h0]
      refine ⟨fun h => absurd h (by omega), fun _ => ?_⟩
      have hb : s.length < (s ++ 10 :: t).length := by omega
      rw [skipTo, dif_pos hb]
      have hg : (s ++ 10 :: t)[s.length] = 10 := by simp
      rw [hg, if_pos (by decide)]

/-- Blanks and comments behind the line's end. -/
theorem skip_shift (s t : List UInt8) (a : Nat) (ha : a ≤ t.length) : skipTo (s ++ 10 :: t) (s.length + 1 + a) = s.length + 1 + skipTo t a := by
  induction hm : t.length - a using Nat.strongRecOn generalizing a with
  | _ m ih =>
    have hlen : (s ++ 10 :: t).length = s.length + (t.length + 1) := by simp
    have hd : (s ++ 10 :: t).drop (s.length + 1 + a) = t.drop a := by
      have e : s ++ 10 :: t = (s ++ [10]) ++ t := by simp
      rw [e, List.drop_append]
      have e2 : s.length + 1 + a - (s ++ [10]).length = a := by simp
      rw [e2, List.drop_of_length_le (by simp), List.nil_append]
    by_cases hlt : a < t.length
    · have hb : s.length + 1 + a < (s ++ 10 :: t).length := by omega
      have hg : (s ++ 10 :: t)[s.length + 1 + a] = t[a] := by
        have h1 := List.drop_eq_getElem_cons hb
        have h2 := List.drop_eq_getElem_cons hlt
        rw [hd, h2] at h1
        exact ((List.cons.inj h1).1).symm
      rw [skipTo, dif_pos hb, hg, skipTo.eq_1 t a, dif_pos hlt, hd]
      by_cases h1 : isBlank t[a] = true
      · rw [if_pos h1, if_pos h1]
        exact ih (t.length - (a + 1)) (by omega) (a + 1) (by omega) rfl
      · rw [if_neg h1, if_neg h1]
        by_cases h3 : (t.drop a).take 2 = [47, 47]
        · rw [if_pos h3, if_pos h3]
          have h4 := lineLen_le (t.drop a)
          have h5 := line_two h3
          simp only [List.length_drop] at h4
          have := ih (t.length - (a + max 1 (lineLen (t.drop a)))) (by omega) (a + max 1 (lineLen (t.drop a))) (by omega) rfl
          rw [← this]; congr 1; omega
        · rw [if_neg h3, if_neg h3]
    · rw [skipTo, dif_neg (by omega), skipTo.eq_1 t a, dif_neg hlt]

/-- THE FIRST TEXT's TOKENS. -/
theorem lex_first (s t : List UInt8) (a : Nat) (ha : a ≤ s.length) :
    (∃ p, ∀ out, lexFrom s a out = ([], 9, p) ∧ lexFrom (s ++ 10 :: t) a out = ([], 9, p)) ∨
    (∃ l, ∀ out, lexFrom s a out = (out ++ l ++ [⟨0, s.length, 0, []⟩], 0, 0) ∧ lexFrom (s ++ 10 :: t) a out = lexFrom (s ++ 10 :: t) (s.length + 1) (out ++ l)) := by
  induction hm : s.length - a using Nat.strongRecOn generalizing a with
  | _ m ih =>
    have hlen : (s ++ 10 :: t).length = s.length + (t.length + 1) := by simp
    obtain ⟨k1, k2⟩ := skip_join s t a ha
    have hge := skipTo_ge s a
    by_cases hlt : skipTo s a < s.length
    · have hS := k1 hlt
      have hd : s.drop (skipTo s a) ≠ [] := by intro h; have := congrArg List.length h; simp at this; omega
      have ho : oneS ((s ++ 10 :: t).drop (skipTo s a)) (skipTo s a) = oneS (s.drop (skipTo s a)) (skipTo s a) := by rw [drop_join (Nat.le_of_lt hlt)]; exact oneS_join hd _
      cases h3 : oneS (s.drop (skipTo s a)) (skipTo s a) with
      | none =>
        left
        exact ⟨skipTo s a, fun out => ⟨lex_bad rfl hlt h3, lex_bad hS (by omega) (ho.trans h3)⟩⟩
      | some x =>
        obtain ⟨y, n⟩ := x
        have hp := oneS_pos h3
        simp only [List.length_drop] at hp
        rcases ih (s.length - (skipTo s a + max 1 n)) (by omega) (skipTo s a + max 1 n) (by omega) rfl with ⟨p, h⟩ | ⟨l, h⟩
        · left
          exact ⟨p, fun out => ⟨(lex_step rfl hlt h3 rfl).trans (h _).1, (lex_step hS (by omega) (ho.trans h3) rfl).trans (h _).2⟩⟩
        · right
          refine ⟨y :: l, fun out => ⟨(lex_step rfl hlt h3 rfl).trans ((h _).1.trans (by simp)), (lex_step hS (by omega) (ho.trans h3) rfl).trans ((h _).2.trans (by simp))⟩⟩
    · right
      refine ⟨[], fun out => ⟨(lex_end hlt).trans (by simp), ?_⟩⟩
      rw [lexFrom.eq_1 _ a, lexFrom.eq_1 _ (s.length + 1)]
      simp only [k2 hlt, List.append_nil]

/-- THE SECOND TEXT's TOKENS. -/
theorem lex_second (s t : List UInt8) (a : Nat) (ha : a ≤ t.length) :
    (∃ p, ∀ out, lexFrom t a out = ([], 9, p) ∧ lexFrom (s ++ 10 :: t) (s.length + 1 + a) out = ([], 9, s.length + 1 + p)) ∨
    (∃ l, ∀ out, lexFrom t a out = (out ++ l, 0, 0) ∧ lexFrom (s ++ 10 :: t) (s.length + 1 + a) out = (out ++ l.map (shiftT (s.length + 1)), 0, 0)) := by
  induction hm : t.length - a using Nat.strongRecOn generalizing a with
  | _ m ih =>
    have hlen : (s ++ 10 :: t).length = s.length + 1 + t.length := by simp; omega
    have hS := skip_shift s t a ha
    have hge := skipTo_ge t a
    have hd : ∀ b, (s ++ 10 :: t).drop (s.length + 1 + b) = t.drop b := fun b => by
      have e : s ++ 10 :: t = (s ++ [10]) ++ t := by simp
      rw [e, List.drop_append]
      have e2 : s.length + 1 + b - (s ++ [10]).length = b := by simp
      rw [e2, List.drop_of_length_le (by simp), List.nil_append]
    by_cases hlt : skipTo t a < t.length
    · have ho : oneS ((s ++ 10 :: t).drop (s.length + 1 + skipTo t a)) (s.length + 1 + skipTo t a) = (oneS (t.drop (skipTo t a)) (skipTo t a)).map fun x => (shiftT (s.length + 1) x.1, x.2) := by rw [hd]; exact oneS_shift _ _ _
      cases h3 : oneS (t.drop (skipTo t a)) (skipTo t a) with
      | none =>
        rw [h3] at ho
        left
        exact ⟨skipTo t a, fun out => ⟨lex_bad rfl hlt h3, lex_bad hS (by omega) ho⟩⟩
      | some x =>
        obtain ⟨y, n⟩ := x
        rw [h3] at ho
        have hp := oneS_pos h3
        simp only [List.length_drop] at hp
        rcases ih (t.length - (skipTo t a + max 1 n)) (by omega) (skipTo t a + max 1 n) (by omega) rfl with ⟨p, h⟩ | ⟨l, h⟩
        · left
          exact ⟨p, fun out => ⟨(lex_step rfl hlt h3 rfl).trans (h _).1, (lex_step hS (by omega) ho (by omega)).trans (h _).2⟩⟩
        · right
          refine ⟨y :: l, fun out => ⟨(lex_step rfl hlt h3 rfl).trans ((h _).1.trans (by simp)), (lex_step hS (by omega) ho (by omega)).trans ((h _).2.trans (by simp))⟩⟩
    · right
      refine ⟨[⟨0, t.length, 0, []⟩], fun out => ⟨lex_end hlt, ?_⟩⟩
      rw [lex_end (by omega), hlen]
      simp [shiftT, Nat.add_comm]

/-- THE PLAIN LAW. -/
theorem lexS_join (s t : List UInt8) (hs : s.length ≤ 20000) (ht : t.length ≤ 20000) :
    (∃ p, lexS s = ([], 9, p) ∧ lexS (s ++ 10 :: t) = ([], 9, p)) ∨
    (∃ l, lexS s = (l ++ [⟨0, s.length, 0, []⟩], 0, 0) ∧
      ((∃ p, lexS t = ([], 9, p) ∧ lexS (s ++ 10 :: t) = ([], 9, s.length + 1 + p)) ∨ (∃ r, lexS t = (r, 0, 0) ∧ lexS (s ++ 10 :: t) = (l ++ r.map (shiftT (s.length + 1)), 0, 0)))) := by
  have hlen : (s ++ 10 :: t).length = s.length + 1 + t.length := by simp; omega
  unfold lexS
  rw [if_neg (by omega), if_neg (by omega), if_neg (by omega)]
  rcases lex_first s t 0 (by omega) with ⟨p, h⟩ | ⟨l, h⟩
  · exact .inl ⟨p, h []⟩
  · refine .inr ⟨l, by simpa using (h []).1, ?_⟩
    have h2 : lexFrom (s ++ 10 :: t) 0 [] = lexFrom (s ++ 10 :: t) (s.length + 1 + 0) l := by simpa using (h []).2
    rcases lex_second s t 0 (by omega) with ⟨p, g⟩ | ⟨r, g⟩
    · exact .inl ⟨p, (g []).1, h2.trans (g l).2⟩
    · exact .inr ⟨r, by simpa using (g []).1, h2.trans (g l).2⟩
end Go.Proofs.YtkeoalhglkfbkaaDoor

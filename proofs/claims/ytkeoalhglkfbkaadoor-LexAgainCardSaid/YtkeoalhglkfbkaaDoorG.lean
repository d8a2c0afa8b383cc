/-
  The document's lexer: where the next token begins; words and signs in a list. No conditions but on sizes.
-/
import Derived.Test.YtkeoalhglkfbkaaDoorF
set_option linter.unusedVariables false
set_option linter.unusedSimpArgs false
namespace Go.Proofs.YtkeoalhglkfbkaaDoor
open Go Hk

theorem lineLen_cons {s : List UInt8} {n : Nat} (h : n < s.length) : lineLen (s.drop n) = if s[n] = 10 then 0 else lineLen (s.drop (n + 1)) + 1 := by
  rw [List.drop_eq_getElem_cons h]; simp only [lineLen, List.takeWhile_cons]
  by_cases hb : s[n] = 10 <;> simp [hb]

theorem byte_eq (b : UInt8) (n : Nat) (hn : n < 256) : ((b.toNat : Int) = n) ↔ b = UInt8.ofNat n := by
  constructor
  · intro h
    have : b.toNat = n := by omega
    rw [← this]; simp
  · intro h
    subst h
    simp; omega

theorem m56_line (s : List UInt8) (hs : s.length ≤ 65536) (n : Nat) (hn : n ≤ s.length) (x : Int) :
    lpW (m56_l0 KK 0) ([.str s, .int .i64 (n : Nat), .int .i64 x], []) = some (.exit 2, [.str s, .int .i64 (n + lineLen (s.drop n) : Nat), .int .i64 x], []) := by
  induction hm : s.length - n using Nat.strongRecOn generalizing n with
  | _ m ih =>
    rw [lpW_step]
    by_cases h : n < s.length
    · have hi : s[n]? = some s[n] := List.getElem?_eq_getElem h
      have h' : (n : Int) < s.length := by omega
      have hb := byte_eq s[n] 10 (by omega)
      rw [lineLen_cons h]
      by_cases hc : s[n] = 10
      · have hb' : (s[n].toNat : Int) = 10 := hb.2 hc
        simp [m56_l0, h', hi, hb', hc, endR_zero]
      · have hb' : ¬ (s[n].toNat : Int) = 10 := fun e => hc (hb.1 e)
        have w : IntKind.wrap .i64 ((n : Int) + 1) = (n : Int) + 1 := by rw [wrap64] <;> omega
        have step : m56_l0 KK 0 ([.str s, .int .i64 (n : Nat), .int .i64 x], []) = some (.normal, [.str s, .int .i64 (n + 1 : Nat), .int .i64 x], []) := by
          simp [m56_l0, h', hi, hb', w, endR_zero]
        rw [step]
        simp only [Option.bind_some, thenDo_normal]
        rw [ih (s.length - (n + 1)) (by omega) (n + 1) (by omega) rfl, if_neg hc]
        rw [show n + 1 + lineLen (s.drop (n + 1)) = n + (lineLen (s.drop (n + 1)) + 1) by omega]
    · have h' : ¬ (n : Int) < s.length := by omega
      have : s.drop n = [] := List.drop_eq_nil_of_le (by omega)
      simp [m56_l0, h', this, lineLen, endR_zero]

theorem take_two {s : List UInt8} {n : Nat} (h : n < s.length) : (s.drop n).take 2 = [47, 47] ↔ s[n] = 47 ∧ s[n + 1]? = some 47 := by
  rw [List.drop_eq_getElem_cons h]
  by_cases h2 : n + 1 < s.length
  · rw [List.drop_eq_getElem_cons h2, List.take_succ_cons, List.take_succ_cons, List.take_zero, List.getElem?_eq_getElem h2]
    simp only [List.cons.injEq, and_true, Option.some.injEq]
  · rw [List.drop_eq_nil_of_le (by omega), List.getElem?_eq_none (show s.length ≤ n + 1 by omega)]; simp

theorem m56_loop (s : List UInt8) (hs : s.length ≤ 65536) (at_ : Nat) (ha : at_ ≤ s.length) :
    lpW (m56_l1 KK 0) ([.str s, .int .i64 (at_ : Nat), .int .i64 0], []) = some (.ret, [.str s, .int .i64 (skipTo s at_ : Nat), .int .i64 (skipTo s at_ : Nat)], []) ∨
    lpW (m56_l1 KK 0) ([.str s, .int .i64 (at_ : Nat), .int .i64 0], []) = some (.exit 0, [.str s, .int .i64 (skipTo s at_ : Nat), .int .i64 0], []) := by
  induction hm : s.length - at_ using Nat.strongRecOn generalizing at_ with
  | _ m ih =>
    rw [lpW_step, skipTo]
    by_cases h : at_ < s.length
    · have hi : s[at_]? = some s[at_] := List.getElem?_eq_getElem h
      have h' : (at_ : Int) < s.length := by omega
      have w : IntKind.wrap .i64 ((at_ : Int) + 1) = ((at_ + 1 : Nat) : Int) := by rw [wrap64] <;> omega
      have hb := byte_eq s[at_] 47 (by omega)
      have t2 := take_two h
      by_cases hr : (s.drop at_).take 2 = [47, 47]
      · obtain ⟨e1, e2⟩ := t2.1 hr
        have h2 : at_ + 1 < s.length := by
          have := (List.getElem?_eq_some_iff.1 e2).1; exact this
        have h2' : ((at_ + 1 : Nat) : Int) < s.length := by omega
        have e1' : (s[at_].toNat : Int) = 47 := hb.2 e1
        have hbl : isBlank s[at_] = false := by rw [e1]; decide
        have hline := m56_line s hs at_ ha 0
        have hll := lineLen_le (s.drop at_)
        have htw := line_two hr
        simp only [List.length_drop] at hll
        have step : m56_l1 KK 0 ([.str s, .int .i64 (at_ : Nat), .int .i64 0], []) = some (.normal, [.str s, .int .i64 (at_ + lineLen (s.drop at_) : Nat), .int .i64 0], []) := by
          have hi2 : aindexStr (.str s) (.int .i64 ((at_ : Int) + 1)) = some (.int .u8 47) := by
            have := aindexStr_nat (s := s) (k := .i64) (i := at_ + 1)
            rw [e2] at this; simpa using this
          simp only [Int.natCast_add, Int.cast_ofNat_Int] at w h2'
          simp [m56_l1, h', w, h2', hi, e1', hi2, hline, endR_zero]
        rw [step]
        simp only [Option.bind_some, thenDo_normal, h, dite_true, hbl, Bool.false_eq_true, if_false, hr, if_true]
        rw [show max 1 (lineLen (s.drop at_)) = lineLen (s.drop at_) by omega]
        exact ih (s.length - (at_ + lineLen (s.drop at_))) (by omega) (at_ + lineLen (s.drop at_)) (by omega) rfl
      · -- no remark
        have body : m56_l1 KK 0 ([.str s, .int .i64 (at_ : Nat), .int .i64 0], []) = if isBlank s[at_] then some (.normal, [.str s, .int .i64 (at_ + 1 : Nat), .int .i64 0], []) else some (.ret, [.str s, .int .i64 (at_ : Nat), .int .i64 (at_ : Nat)], []) := by
          simp only [Int.natCast_add, Int.cast_ofNat_Int] at w
          by_cases h2 : at_ + 1 < s.length
          · have h2' : ((at_ : Int) + 1) < s.length := by omega
            by_cases e1 : s[at_] = 47
            · have e1' : (s[at_].toNat : Int) = 47 := hb.2 e1
              have e2 : ¬ s[at_ + 1] = 47 := fun e => hr (t2.2 ⟨e1, by rw [List.getElem?_eq_getElem h2, e]⟩)
              have e2' : ¬ (s[at_ + 1].toNat : Int) = 47 := fun e => e2 ((byte_eq s[at_ + 1] 47 (by omega)).1 e)
              have hi2 : aindexStr (.str s) (.int .i64 ((at_ : Int) + 1)) = some (by8 s[at_ + 1]) := by
                have := aindexStr_nat (s := s) (k := .i64) (i := at_ + 1)
                rw [List.getElem?_eq_getElem h2] at this; simpa using this
              have hbl : isBlank s[at_] = false := by rw [e1]; decide
              have c47 : ∀ h, KK 114 [.int .u8 47] h = some (.ret (.bool false), h) := fun h => c114 47 h
              simp [m56_l1, h', w, h2', hi, e1', hi2, e2', c47, hbl, endR_zero]
            · have e1' : ¬ (s[at_].toNat : Int) = 47 := fun e => e1 (hb.1 e)
              cases hbl : isBlank s[at_] <;> simp [m56_l1, h', w, h2', hi, e1', c114, hbl, endR_zero]
          · have h2' : ¬ ((at_ : Int) + 1) < s.length := by omega
            cases hbl : isBlank s[at_] <;> simp [m56_l1, h', w, h2', hi, c114, hbl, endR_zero]
        rw [body]
        simp only [h, dite_true, hr, if_false]
        cases hbl : isBlank s[at_] with
        | true =>
          simp only [if_true, Option.bind_some, thenDo_normal]
          exact ih (s.length - (at_ + 1)) (by omega) (at_ + 1) (by omega) rfl
        | false => left; simp
    · right
      have h' : ¬ (at_ : Int) < s.length := by omega
      simp [m56_l1, h', h, endR_zero]

theorem c56 (s : List UInt8) (hs : s.length ≤ 65536) (at_ : Nat) (ha : at_ ≤ s.length) (h : Heap) : KK 56 [.str s, .int .i64 (at_ : Nat)] h = some (.ret (.int .i64 (skipTo s at_ : Nat)), h) := by
  refine callP_pure rfl rfl (evW_by (m56_eq _ _ _ _) ?_)
  simp only [m56, List.length_nil]
  rcases m56_loop s hs at_ ha with hl | hl <;> rw [hl] <;> simp [finR_zero]

/-! ### Lists between blanks -/

/-- Is t somewhere in l? -/
def inB (t : List UInt8) : List UInt8 → Bool
  | [] => t.isPrefixOf []
  | b :: l => t.isPrefixOf (b :: l) || inB t l

def joinB : List (List UInt8) → List UInt8
  | [] => [32]
  | w :: ws => 32 :: (w ++ joinB ws)

theorem prefix_eq : ∀ (r w : List UInt8) (J : List UInt8), 32 ∉ r → 32 ∉ w → ((r ++ [32]).isPrefixOf (w ++ 32 :: J) = decide (r = w))
  | [], [], J, _, _ => by simp
  | [], b :: w, J, _, hw => by
    have : ¬ (32 : UInt8) = b := fun e => hw (by simp [e])
    simp [List.isPrefixOf, this]
  | a :: r, [], J, hr, _ => by
    have : ¬ a = (32 : UInt8) := fun e => hr (by simp [e])
    simp [List.isPrefixOf, this]
  | a :: r, b :: w, J, hr, hw => by
    have ih := prefix_eq r w J (fun h => hr (by simp [h])) (fun h => hw (by simp [h]))
    by_cases hab : a = b
    · subst hab; simp [List.isPrefixOf, ih]
    · simp [List.isPrefixOf, hab]

theorem joinB_cons (ws : List (List UInt8)) : ∃ J, joinB ws = 32 :: J := by cases ws <;> exact ⟨_, rfl⟩

theorem inB_skip (t : List UInt8) : ∀ (w J : List UInt8), 32 ∉ w → inB (32 :: t) (w ++ J) = inB (32 :: t) J
  | [], J, _ => rfl
  | b :: w, J, hw => by
    have : ¬ (32 : UInt8) = b := fun e => hw (by simp [e])
    have hb : ((32 : UInt8) == b) = false := by simp [this]
    simp only [List.cons_append, inB, List.isPrefixOf, hb, Bool.false_and, Bool.false_or]
    exact inB_skip t w J (fun h => hw (by simp [h]))

theorem inB_join (r : List UInt8) (hr : 32 ∉ r) : ∀ (ws : List (List UInt8)), (∀ w ∈ ws, 32 ∉ w) → inB (32 :: (r ++ [32])) (joinB ws) = decide (r ∈ ws)
  | [], _ => by cases r <;> simp [joinB, inB, List.isPrefixOf]
  | w :: ws, hw => by
    obtain ⟨J, hJ⟩ := joinB_cons ws
    have ih := inB_join r hr ws (fun w h => hw w (by simp [h]))
    have hp := prefix_eq r w J hr (hw w (by simp))
    simp only [joinB, inB, List.isPrefixOf, beq_self_eq_true, Bool.true_and]
    rw [inB_skip _ w _ (hw w (by simp)), ih, hJ, hp]
    simp [List.mem_cons]

theorem inB_cons (t q : List UInt8) (b : UInt8) (r : List UInt8) (h : q = b :: r) : inB t q = (t.isPrefixOf q || inB t r) := by subst h; rfl

/-- The document's search in a list. -/
theorem m119_loop (l t : List UInt8) (hl : l.length ≤ 65536) (ht : t.length ≤ 131072) (h1 : 1 ≤ t.length) (i : Nat) (hi : i ≤ l.length) :
    (inB t (l.drop i) = true ∧ ∃ j : Int, lpW (m119_l0 KK 0) ([.str l, .bool false, .str t, .int .i64 (i : Nat)], []) = some (.ret, [.str l, .bool true, .str t, .int .i64 j], [])) ∨
    (inB t (l.drop i) = false ∧ ∃ j : Int, lpW (m119_l0 KK 0) ([.str l, .bool false, .str t, .int .i64 (i : Nat)], []) = some (.exit 0, [.str l, .bool false, .str t, .int .i64 j], [])) := by
  induction hm : l.length - i using Nat.strongRecOn generalizing i with
  | _ m ih =>
    rw [lpW_step]
    have w1 : IntKind.wrap .i64 ((i : Int) + t.length) = ((i + t.length : Nat) : Int) := by rw [wrap64] <;> omega
    have w2 : IntKind.wrap .i64 ((i : Int) + 1) = (i : Int) + 1 := by rw [wrap64] <;> omega
    by_cases h : i + t.length ≤ l.length
    · have h' : ((i + t.length : Nat) : Int) ≤ l.length := by omega
      have hsl := asliceStr_nat (s := l) (lo := some (.int .i64 (i : Int))) (hi := some (.int .i64 ((i + t.length : Nat) : Int))) abound_nat abound_nat (by omega) h
      rw [show i + t.length - i = t.length by omega] at hsl
      have hil : i < l.length := by omega
      have hcons := List.drop_eq_getElem_cons hil
      have hpre : t.isPrefixOf (l.drop i) = decide ((l.drop i).take t.length = t) := by
        rw [Bool.eq_iff_iff]
        simp only [List.isPrefixOf_iff_prefix, decide_eq_true_eq]
        constructor
        · intro hp; exact (List.prefix_iff_eq_take.1 hp).symm
        · intro hp; exact List.prefix_iff_eq_take.2 hp.symm
      simp only [Int.natCast_add] at w1 h' hsl
      by_cases hp : (l.drop i).take t.length = t
      · left
        refine ⟨?_, i, ?_⟩
        · rw [inB_cons t _ _ _ hcons, hpre, decide_eq_true hp]; rfl
        · simp [m119_l0, w1, h', hsl, hp, endR_zero]
      · have hin : inB t (l.drop i) = inB t (l.drop (i + 1)) := by
          rw [inB_cons t _ _ _ hcons, hpre, decide_eq_false hp]; rfl
        have step : m119_l0 KK 0 ([.str l, .bool false, .str t, .int .i64 (i : Nat)], []) = some (.normal, [.str l, .bool false, .str t, .int .i64 (i + 1 : Nat)], []) := by
          simp [m119_l0, w1, w2, h', hsl, hp, endR_zero]
        rw [step, hin]
        simp only [Option.bind_some, thenDo_normal]
        exact ih (l.length - (i + 1)) (by omega) (i + 1) (by omega) rfl
    · right
      have h' : ¬ ((i : Int) + t.length) ≤ l.length := by omega
      simp only [Int.natCast_add] at w1
      refine ⟨?_, i, ?_⟩
      · have : ∀ (q : List UInt8), q.length < t.length → inB t q = false := by
          intro q
          induction q with
          | nil => intro hq; cases t with | nil => simp at h1 | cons a b => rfl
          | cons b q ihq =>
            intro hq
            have hnp : t.isPrefixOf (b :: q) = false := by
              rw [Bool.eq_false_iff]
              intro hp
              have := (List.isPrefixOf_iff_prefix.1 hp).length_le
              omega
            simp only [inB, hnp, Bool.false_or]
            exact ihq (by simp at hq; omega)
        exact this _ (by simp; omega)
      · simp [m119_l0, w1, h', endR_zero]

theorem c119 (l s : List UInt8) (hl : l.length ≤ 65536) (hs : s.length ≤ 65536) (h : Heap) : KK 119 [.str l, .str s] h = some (.ret (.bool (inB (32 :: (s ++ [32])) l)), h) := by
  refine callP_pure rfl rfl (evW_by (m119_eq _ _ _ _) ?_)
  have e1 : 1 + s.length ≤ 4611686018427387904 := by omega
  have e2 : s.length + 1 + 1 ≤ 4611686018427387904 := by omega
  have hloop := m119_loop l (32 :: (s ++ [32])) hl (by simp; omega) (by simp) 0 (Nat.zero_le _)
  simp only [List.drop_zero, Int.ofNat_eq_natCast, Int.cast_ofNat_Int] at hloop
  rcases hloop with ⟨hi, j, hlp⟩ | ⟨hi, j, hlp⟩
  · rw [hi]; simp [m119, e1, e2, hlp, finR_zero]
  · rw [hi]; simp [m119, e1, e2, hlp, finR_zero]

end Go.Proofs.YtkeoalhglkfbkaaDoor

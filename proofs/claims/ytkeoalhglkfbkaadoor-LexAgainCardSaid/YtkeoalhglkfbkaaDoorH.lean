/-
  The document's numbers. No conditions but on sizes.
-/
import Derived.Test.YtkeoalhglkfbkaaDoorG
set_option linter.unusedVariables false
set_option linter.unusedSimpArgs false
namespace Go.Proofs.YtkeoalhglkfbkaaDoor
open Go Hk

def digitsRaw (hex : Bool) : List UInt8 → Nat → Option Nat
  | [], n => some n
  | b :: r, n => match valueS hex b with
    | none => none
    | some v => digitsRaw hex r (n * baseOf hex + v)

theorem raw_ge (hex : Bool) : ∀ (l : List UInt8) (n r : Nat), digitsRaw hex l n = some r → n * baseOf hex ^ l.length ≤ r
  | [], n, r, h => by simp [digitsRaw] at h; simp [h]
  | b :: l, n, r, h => by
    simp only [digitsRaw] at h
    cases hv : valueS hex b with
    | none => rw [hv] at h; cases h
    | some v =>
      rw [hv] at h
      have := raw_ge hex l _ r h
      rw [List.length_cons, Nat.pow_succ, Nat.mul_comm (baseOf hex ^ l.length), ← Nat.mul_assoc]
      exact Nat.le_trans (Nat.mul_le_mul_right _ (Nat.le_add_right _ _)) this

theorem base_pos (hex : Bool) (k : Nat) : 1 ≤ baseOf hex ^ k := Nat.one_le_pow _ _ (by cases hex <;> decide)

theorem val_raw (hex : Bool) : ∀ (l : List UInt8) (n : Nat), n ≤ 4294967295 → digitsVal hex l n = match digitsRaw hex l n with | some r => if r ≤ 4294967295 then some r else none | none => none
  | [], n, h => by simp [digitsVal, digitsRaw, h]
  | b :: l, n, h => by
    simp only [digitsVal, digitsRaw]
    cases hv : valueS hex b with
    | none => rfl
    | some v =>
      simp only []
      rw [Nat.mul_comm (baseOf hex) n]
      by_cases hb : 4294967295 < n * baseOf hex + v
      · rw [if_pos hb]
        cases hr : digitsRaw hex l (n * baseOf hex + v) with
        | none => rfl
        | some r =>
          have := raw_ge hex l _ r hr
          have h1 := base_pos hex l.length
          have : n * baseOf hex + v ≤ r := Nat.le_trans (Nat.le_mul_of_pos_right _ h1) this
          simp only []
          rw [if_neg (by omega)]
      · rw [if_neg hb]
        exact val_raw hex l _ (by omega)

theorem valueS_lt {hex : Bool} {b : UInt8} {v : Nat} (h : valueS hex b = some v) : v + 1 ≤ baseOf hex := by
  unfold valueS at h
  split at h
  · rename_i hd; cases h; simp [isDigit] at hd; cases hex <;> simp [baseOf] <;> omega
  · split at h
    · rename_i hd; cases h; simp at hd; obtain ⟨h1, h2, h3⟩ := hd; subst h1; simp [baseOf]; omega
    · cases h

theorem m118_loop (hex : Bool) (s : List UInt8) (hs : s.length ≤ 65536) (i n : Nat) (hi : i ≤ s.length) (hb : (n + 1) * baseOf hex ^ (s.length - i) ≤ 2199023255552) :
    ∃ (n' j : Int), lpW (m118_l0 KK 0) ([.str s, .int .i64 0, .int .i64 (baseOf hex : Nat), .int .i64 (n : Nat), .int .i64 (i : Nat)], []) =
      some (match digitsRaw hex (s.drop i) n with
        | some r => (.exit 0, [.str s, .int .i64 0, .int .i64 (baseOf hex : Nat), .int .i64 (r : Nat), .int .i64 j], [])
        | none => (.ret, [.str s, .int .i64 (-1), .int .i64 (baseOf hex : Nat), .int .i64 n', .int .i64 j], [])) := by
  induction hm : s.length - i using Nat.strongRecOn generalizing i n with
  | _ m ih =>
    rw [lpW_step]
    by_cases h : i < s.length
    · have hx : s[i]? = some s[i] := List.getElem?_eq_getElem h
      have h' : (i : Int) < s.length := by omega
      have hdrop := List.drop_eq_getElem_cons h
      rw [hdrop]
      generalize hc : s[i] = b at *
      have hb8 := u8_lt b
      have e1 : ((97 : Int) ≤ b.toNat) ↔ 97 ≤ b.toNat := by omega
      have e2 : ((b.toNat : Int) ≤ 102) ↔ b.toNat ≤ 102 := by omega
      have w0 : IntKind.wrap .i64 (b.toNat : Int) = b.toNat := by rw [wrap64] <;> omega
      have w1 : IntKind.wrap .i64 ((b.toNat : Int) - 48) = (b.toNat : Int) - 48 := by rw [wrap64] <;> omega
      have w2 : IntKind.wrap .i64 ((b.toNat : Int) - 97) = (b.toNat : Int) - 97 := by rw [wrap64] <;> omega
      have w3 : IntKind.wrap .i64 ((b.toNat : Int) - 97 + 10) = (b.toNat : Int) - 97 + 10 := by rw [wrap64] <;> omega
      have wi : IntKind.wrap .i64 ((i : Int) + 1) = (i : Int) + 1 := by rw [wrap64] <;> omega
      cases hv : valueS hex b with
      | none =>
        refine ⟨n, i, ?_⟩
        have hd : isDigit b = false := by
          cases hd : isDigit b with
          | false => rfl
          | true => simp [valueS, hd] at hv
        simp only [digitsRaw, hv]
        cases hex with
        | true =>
          by_cases h1 : 97 ≤ b.toNat <;> by_cases h2 : b.toNat ≤ 102
          · simp [valueS, hd, h1, h2] at hv
          all_goals simp [m118_l0, h', hx, w0, w1, c116, hd, e1, e2, h1, h2, baseOf, endR_zero]
        | false =>
          by_cases h1 : 97 ≤ b.toNat <;> by_cases h2 : b.toNat ≤ 102 <;> simp [m118_l0, h', hx, w0, w1, c116, hd, e1, e2, h1, h2, baseOf, endR_zero]
      | some v =>
        have hvl := valueS_lt hv
        have hpow : baseOf hex ^ (s.length - i) = baseOf hex ^ (s.length - (i + 1)) * baseOf hex := by rw [← Nat.pow_succ]; congr 1; omega
        have hb2 : (n * baseOf hex + v + 1) * baseOf hex ^ (s.length - (i + 1)) ≤ 2199023255552 := by
          refine Nat.le_trans ?_ hb
          rw [hpow, Nat.mul_comm (baseOf hex ^ _) (baseOf hex), ← Nat.mul_assoc, Nat.add_mul n 1, Nat.one_mul]
          exact Nat.mul_le_mul_right _ (by omega)
        have hsmall : n * baseOf hex + v + 1 ≤ 2199023255552 := Nat.le_trans (Nat.le_mul_of_pos_right _ (base_pos hex _)) hb2
        have hmul0 : (0 : Int) ≤ (n : Int) * (baseOf hex : Nat) := by have := Int.natCast_nonneg (n * baseOf hex); rwa [Int.natCast_mul] at this
        have hmul1 : (n : Int) * (baseOf hex : Nat) + v + 1 ≤ 2199023255552 := by
          have : ((n * baseOf hex + v + 1 : Nat) : Int) ≤ 2199023255552 := by omega
          simpa [Int.natCast_add, Int.natCast_mul] using this
        have w4 : IntKind.wrap .i64 ((n : Int) * (baseOf hex : Nat)) = (n : Int) * (baseOf hex : Nat) := by rw [wrap64] <;> omega
        have w5 : IntKind.wrap .i64 ((n : Int) * (baseOf hex : Nat) + v) = (n : Int) * (baseOf hex : Nat) + v := by rw [wrap64] <;> omega
        obtain ⟨n', j, hl⟩ := ih (s.length - (i + 1)) (by omega) (i + 1) (n * baseOf hex + v) (by omega) hb2 rfl
        refine ⟨n', j, ?_⟩
        have step : m118_l0 KK 0 ([.str s, .int .i64 0, .int .i64 (baseOf hex : Nat), .int .i64 (n : Nat), .int .i64 (i : Nat)], []) =
            some (.normal, [.str s, .int .i64 0, .int .i64 (baseOf hex : Nat), .int .i64 (n * baseOf hex + v : Nat), .int .i64 (i + 1 : Nat)], []) := by
          cases hd : isDigit b with
          | true =>
            have hr : 48 ≤ b.toNat ∧ b.toNat ≤ 57 := by simpa [isDigit] using hd
            have hvv : v = b.toNat - 48 := by simp [valueS, hd] at hv; exact hv.symm
            have hvi : (b.toNat : Int) - 48 = v := by omega
            rw [hvi] at w1
            have h1 : ¬ 97 ≤ b.toNat := by omega
            simp [m118_l0, h', hx, w0, hvi, w1, c116, hd, e1, h1, w4, w5, wi, endR_zero]
          | false =>
            cases hex with
            | false => simp [valueS, hd] at hv
            | true =>
              by_cases h1 : 97 ≤ b.toNat
              · by_cases h2 : b.toNat ≤ 102
                · have hvv : v = b.toNat - 87 := by simp [valueS, hd, h1, h2] at hv; exact hv.symm
                  have hvi : (b.toNat : Int) - 97 + 10 = v := by omega
                  rw [hvi] at w3
                  simp only [baseOf, if_true, Int.cast_ofNat_Int] at w4 w5
                  simp [m118_l0, h', hx, w0, w1, w2, hvi, w3, e1, e2, h1, h2, baseOf, w4, w5, wi, endR_zero]
                · simp [valueS, hd, h1, h2] at hv
              · simp [valueS, hd, h1] at hv
        rw [step]
        simp only [Option.bind_some, thenDo_normal]
        rw [hl]
        simp only [digitsRaw, hv]
    · have h' : ¬ (i : Int) < s.length := by omega
      have : s.drop i = [] := List.drop_eq_nil_of_le (by omega)
      refine ⟨n, i, ?_⟩
      simp [m118_l0, h', this, digitsRaw, endR_zero]

def numI (s : List UInt8) : Int := match numberS s with | some n => n | none => -1

theorem c118 (s : List UInt8) (hs : s.length ≤ 65536) (h0 : s ≠ []) (h : Heap) : KK 118 [.str s] h = some (.ret (.int .i64 (numI s)), h) := by
  refine callP_pure rfl rfl (evW_by (m118_eq _ _ _) ?_)
  by_cases hp : s.take 2 = [48, 120]
  · have hl2 : 2 ≤ s.length := by have := congrArg List.length hp; simp at this; omega
    have hl2' : (2 : Int) ≤ s.length := by omega
    have s1 := asliceStr_nat (s := s) (lo := none) (hi := some (.int .i64 ((2 : Nat) : Int))) abound_none abound_nat (by omega) hl2
    have s2 := asliceStr_nat (s := s) (lo := some (.int .i64 ((2 : Nat) : Int))) (hi := none) abound_nat abound_none hl2 (Nat.le_refl _)
    have e : (s.drop 2).take (s.length - 2) = s.drop 2 := List.take_of_length_le (by simp)
    rw [e] at s2
    simp only [Int.cast_ofNat_Int, List.drop_zero, Nat.sub_zero, hp] at s1 s2
    have hn : numberS s = if s.drop 2 = [] ∨ 8 < (s.drop 2).length then none else digitsVal true (s.drop 2) 0 := by simp only [numberS, hp, if_true]
    have hrl : (s.drop 2).length ≤ 65536 := by simp; omega
    unfold numI
    rw [hn]
    generalize s.drop 2 = r at *
    by_cases hl : 8 < r.length
    · have hl' : (8 : Int) < r.length := by omega
      simp [m118, hl2', s1, s2, hl, hl', finR_zero]
    · have hl' : ¬ (8 : Int) < r.length := by omega
      by_cases he : r = []
      · subst he
        simp [m118, hl2', s1, s2, finR_zero]
      · have hpw : (0 + 1) * baseOf true ^ (r.length - 0) ≤ 2199023255552 := by
          have : baseOf true ^ r.length ≤ 16 ^ 8 := Nat.pow_le_pow_right (by decide) (by omega)
          simp only [Nat.sub_zero, Nat.zero_add, Nat.one_mul]; omega
        obtain ⟨n', j, hloop⟩ := m118_loop true r hrl 0 0 (Nat.zero_le _) hpw
        simp only [baseOf, if_true, List.drop_zero, Int.ofNat_eq_natCast, Int.cast_ofNat_Int] at hloop
        rw [if_neg (by simp [he, hl]), val_raw true r 0 (by omega)]
        cases hd : digitsRaw true r 0 with
        | none => rw [hd] at hloop; simp [m118, hl2', s1, s2, he, hl', hloop, finR_zero]
        | some v =>
          rw [hd] at hloop
          by_cases hv : v ≤ 4294967295
          · have hv' : ¬ (4294967296 : Int) ≤ v := by omega
            simp [m118, hl2', s1, s2, he, hl', hloop, hv, hv', finR_zero]
          · have hv' : (4294967296 : Int) ≤ v := by omega
            simp [m118, hl2', s1, s2, he, hl', hloop, hv, hv', finR_zero]
  · -- no '0x' ahead: the test of the first two bytes fails, whatever the length
    have hn : numberS s = if s[0]? = some 48 ∧ s ≠ [48] then none else digitsVal false s 0 := by simp only [numberS, hp, if_false]
    obtain ⟨b, r, hbr⟩ : ∃ b r, s = b :: r := by cases s with | nil => exact absurd rfl h0 | cons b r => exact ⟨b, r, rfl⟩
    have hs0 : s[0]? = some b := by rw [hbr]; rfl
    have hlen : s.length = r.length + 1 := by rw [hbr]; rfl
    have ht : ((48 : UInt8).toNat : Int) = 48 := rfl
    have hb48 : ((b.toNat : Int) = 48) ↔ b = 48 := by
      constructor
      · intro h; exact UInt8.toNat_inj.1 (by simpa using (by omega : b.toNat = 48))
      · intro h; rw [h]; rfl
    unfold numI
    rw [hn]
    -- both ways through the test
    have key : ∀ (X : Option (Res × Heap)), (∀ (hten : 10 < s.length ∨ (1 < s.length ∧ b = 48)), X = some (.ret (.int .i64 (-1)), [])) →
        (∀ (hten : ¬ (10 < s.length ∨ (1 < s.length ∧ b = 48))), X = some (.ret (.int .i64 (match digitsVal false s 0 with | some n => (n : Int) | none => -1)), [])) →
        X = some (.ret (.int .i64 (match (if s[0]? = some 48 ∧ s ≠ [48] then none else digitsVal false s 0) with | some n => (n : Int) | none => -1)), []) := by
      intro X h1 h2
      by_cases hten : 10 < s.length ∨ (1 < s.length ∧ b = 48)
      · rw [h1 hten]
        by_cases hz : s[0]? = some 48 ∧ s ≠ [48]
        · rw [if_pos hz]
        · rw [if_neg hz]
          have hb : b ≠ 48 := by
            intro hb
            refine hz ⟨by rw [hs0, hb], fun e => ?_⟩
            rw [e] at hten
            simp at hten
          have h10 : 10 < s.length := by
            rcases hten with h | ⟨_, h⟩
            · exact h
            · exact absurd h hb
          have : digitsVal false s 0 = none := by
            rw [val_raw false s 0 (by omega)]
            cases hr : digitsRaw false s 0 with
            | none => rfl
            | some v =>
              rw [hbr] at hr
              simp only [digitsRaw] at hr
              cases hv : valueS false b with
              | none => rw [hv] at hr; cases hr
              | some d =>
                rw [hv] at hr
                have hd : isDigit b = true := by
                  cases hd : isDigit b with
                  | true => rfl
                  | false => simp [valueS, hd] at hv
                have hdr : 48 ≤ b.toNat ∧ b.toNat ≤ 57 := by simpa [isDigit] using hd
                have hdv : d = b.toNat - 48 := by simp [valueS, hd] at hv; exact hv.symm
                have hb' : b.toNat ≠ 48 := fun e => hb (hb48.1 (by omega))
                have hge := raw_ge false r _ v hr
                have hp10 : (10 : Nat) ^ 10 ≤ 10 ^ r.length := Nat.pow_le_pow_right (by decide) (by omega)
                have h1d : 1 ≤ 0 * baseOf false + d := by omega
                have : 1 * 10 ^ r.length ≤ (0 * baseOf false + d) * baseOf false ^ r.length := Nat.mul_le_mul_right _ h1d
                simp only []
                rw [if_neg (by omega)]
          rw [this]
      · rw [h2 hten]
        by_cases hz : s[0]? = some 48 ∧ s ≠ [48]
        · exfalso
          obtain ⟨z1, z2⟩ := hz
          rw [hs0] at z1
          cases z1
          refine hten (.inr ⟨?_, rfl⟩)
          cases r with
          | nil => exact absurd hbr z2
          | cons c r => rw [hlen]; simp
        · rw [if_neg hz]
    refine key _ (fun hten => ?_) (fun hten => ?_)
    · by_cases hl2 : 2 ≤ s.length
      · have hl2' : (2 : Int) ≤ s.length := by omega
        have s1 := asliceStr_nat (s := s) (lo := none) (hi := some (.int .i64 ((2 : Nat) : Int))) abound_none abound_nat (by omega) hl2
        simp only [Int.cast_ofNat_Int, List.drop_zero, Nat.sub_zero] at s1
        by_cases h10 : 10 < s.length
        · have h10' : (10 : Int) < s.length := by omega
          simp [m118, hl2', s1, hp, h10', finR_zero]
        · have h10' : ¬ (10 : Int) < s.length := by omega
          have hb := (hten.resolve_left h10).2
          have h1' : (1 : Int) < s.length := by omega
          have hbt := hb48.2 hb
          simp [m118, hl2', s1, hp, h10', h1', hs0, hbt, finR_zero]
      · omega
    · have h10' : ¬ (10 : Int) < s.length := by omega
      have hpw : (0 + 1) * baseOf false ^ (s.length - 0) ≤ 2199023255552 := by
        have : baseOf false ^ s.length ≤ 10 ^ 10 := Nat.pow_le_pow_right (by decide) (by omega)
        simp only [Nat.sub_zero, Nat.zero_add, Nat.one_mul]; omega
      obtain ⟨n', j, hloop⟩ := m118_loop false s hs 0 0 (Nat.zero_le _) hpw
      simp only [baseOf, Bool.false_eq_true, if_false, List.drop_zero, Int.ofNat_eq_natCast, Int.cast_ofNat_Int] at hloop
      rw [val_raw false s 0 (by omega)]
      -- ahead of the loop
      have ahead : ∀ v, digitsRaw false s 0 = v → m118 KK (.str s) [] = some (.ret (.int .i64 (match (match v with | some r => if r ≤ 4294967295 then some r else none | none => none) with | some n => (n : Int) | none => -1)), []) := by
        intro v hv
        rw [hv] at hloop
        have fin : ∀ (r : Nat), (4294967296 : Int) ≤ r ∨ ¬ (4294967296 : Int) ≤ r := fun r => Classical.em _
        by_cases hl2 : 2 ≤ s.length
        · have hl2' : (2 : Int) ≤ s.length := by omega
          have s1 := asliceStr_nat (s := s) (lo := none) (hi := some (.int .i64 ((2 : Nat) : Int))) abound_none abound_nat (by omega) hl2
          simp only [Int.cast_ofNat_Int, List.drop_zero, Nat.sub_zero] at s1
          have h1' : (1 : Int) < s.length := by omega
          have hbt : ¬ ((b.toNat : Int) = 48) := fun e => hten (.inr ⟨by omega, hb48.1 e⟩)
          cases v with
          | none => simp [m118, hl2', s1, hp, h10', h1', hs0, hbt, h0, hloop, finR_zero]
          | some r =>
            by_cases hv : r ≤ 4294967295
            · have hv' : ¬ (4294967296 : Int) ≤ r := by omega
              simp [m118, hl2', s1, hp, h10', h1', hs0, hbt, h0, hloop, hv, hv', finR_zero]
            · have hv' : (4294967296 : Int) ≤ r := by omega
              simp [m118, hl2', s1, hp, h10', h1', hs0, hbt, h0, hloop, hv, hv', finR_zero]
        · have hl2' : ¬ (2 : Int) ≤ s.length := by omega
          have h1' : ¬ (1 : Int) < s.length := by omega
          cases v with
          | none => simp [m118, hl2', h10', h1', h0, hloop, finR_zero]
          | some r =>
            by_cases hv : r ≤ 4294967295
            · have hv' : ¬ (4294967296 : Int) ≤ r := by omega
              simp [m118, hl2', h10', h1', h0, hloop, hv, hv', finR_zero]
            · have hv' : (4294967296 : Int) ≤ r := by omega
              simp [m118, hl2', h10', h1', h0, hloop, hv, hv', finR_zero]
      exact ahead _ rfl

end Go.Proofs.YtkeoalhglkfbkaaDoor

/-
  The texts RX.A, RX.M, RX.B, RX.C, RX.D, RX.E, RX.F, RX.G, RX.H, RX.I, RX.J, RX.K, RX.L, RX.N, one behind another. No conditions.
-/
import Derived.Test.YtkeoalhglkfbkaaDoorSx3
import Derived.Test.YtkeoalhglkfbkaaDoorLx2
set_option linter.unusedVariables false
set_option linter.unusedSimpArgs false
set_option linter.unusedSectionVars false
/-
  THE PLAIN LAW: expressions read by how tight signs bind are those that are read level by level. No program in sight. No conditions.
-/
namespace Go.Proofs.YtkeoalhglkfbkaaDoor
open Go Hk

/-- How tight a sign binds (1 the loosest), and its kind; 0: it is none. -/
def tightS (w : List UInt8) : Nat × Nat := match levelOf w with
  | some (l, k) => (l + 1, k)
  | none => (0, 0)
def textS (t : Token) : List UInt8 := if t.kind = 3 ∨ t.kind = 4 then t.text else []
/-- No word is a sign between two. -/
def WordOk (L : List Token) : Prop := ∀ a, (tk L a).kind = 3 → levelOf (tk L a).text = none

theorem level_facts {w : List UInt8} {l k : Nat} (h : levelOf w = some (l, k)) : l ≤ 6 ∧ ((k = 14 ∨ k = 15) ↔ l = 4) := by
  by_cases h0 : w = [61, 61]
  · rw [h0, show levelOf [61, 61] = some (0, 17) by decide] at h
    simp only [Option.some.injEq, Prod.mk.injEq] at h
    obtain ⟨rfl, rfl⟩ := h; decide
  by_cases h1 : w = [33, 61]
  · rw [h1, show levelOf [33, 61] = some (0, 18) by decide] at h
    simp only [Option.some.injEq, Prod.mk.injEq] at h
    obtain ⟨rfl, rfl⟩ := h; decide
  by_cases h2 : w = [60]
  · rw [h2, show levelOf [60] = some (0, 19) by decide] at h
    simp only [Option.some.injEq, Prod.mk.injEq] at h
    obtain ⟨rfl, rfl⟩ := h; decide
  by_cases h3 : w = [60, 61]
  · rw [h3, show levelOf [60, 61] = some (0, 20) by decide] at h
    simp only [Option.some.injEq, Prod.mk.injEq] at h
    obtain ⟨rfl, rfl⟩ := h; decide
  by_cases h4 : w = [62]
  · rw [h4, show levelOf [62] = some (0, 21) by decide] at h
    simp only [Option.some.injEq, Prod.mk.injEq] at h
    obtain ⟨rfl, rfl⟩ := h; decide
  by_cases h5 : w = [62, 61]
  · rw [h5, show levelOf [62, 61] = some (0, 22) by decide] at h
    simp only [Option.some.injEq, Prod.mk.injEq] at h
    obtain ⟨rfl, rfl⟩ := h; decide
  by_cases h6 : w = [124]
  · rw [h6, show levelOf [124] = some (1, 12) by decide] at h
    simp only [Option.some.injEq, Prod.mk.injEq] at h
    obtain ⟨rfl, rfl⟩ := h; decide
  by_cases h7 : w = [94]
  · rw [h7, show levelOf [94] = some (2, 13) by decide] at h
    simp only [Option.some.injEq, Prod.mk.injEq] at h
    obtain ⟨rfl, rfl⟩ := h; decide
  by_cases h8 : w = [38]
  · rw [h8, show levelOf [38] = some (3, 11) by decide] at h
    simp only [Option.some.injEq, Prod.mk.injEq] at h
    obtain ⟨rfl, rfl⟩ := h; decide
  by_cases h9 : w = [60, 60]
  · rw [h9, show levelOf [60, 60] = some (4, 14) by decide] at h
    simp only [Option.some.injEq, Prod.mk.injEq] at h
    obtain ⟨rfl, rfl⟩ := h; decide
  by_cases h10 : w = [62, 62]
  · rw [h10, show levelOf [62, 62] = some (4, 15) by decide] at h
    simp only [Option.some.injEq, Prod.mk.injEq] at h
    obtain ⟨rfl, rfl⟩ := h; decide
  by_cases h11 : w = [43]
  · rw [h11, show levelOf [43] = some (5, 8) by decide] at h
    simp only [Option.some.injEq, Prod.mk.injEq] at h
    obtain ⟨rfl, rfl⟩ := h; decide
  by_cases h12 : w = [45]
  · rw [h12, show levelOf [45] = some (5, 9) by decide] at h
    simp only [Option.some.injEq, Prod.mk.injEq] at h
    obtain ⟨rfl, rfl⟩ := h; decide
  by_cases h13 : w = [42]
  · rw [h13, show levelOf [42] = some (6, 10) by decide] at h
    simp only [Option.some.injEq, Prod.mk.injEq] at h
    obtain ⟨rfl, rfl⟩ := h; decide
  exfalso
  unfold levelOf at h
  rw [if_neg h0, if_neg h1, if_neg h2, if_neg h3, if_neg h4, if_neg h5, if_neg h6, if_neg h7, if_neg h8, if_neg h9, if_neg h10, if_neg h11, if_neg h12, if_neg h13] at h
  cases h

theorem tight_facts {w : List UInt8} : (tightS w).1 ≤ 7 ∧ ((tightS w).1 ≠ 0 → (((tightS w).2 = 14 ∨ (tightS w).2 = 15) ↔ (tightS w).1 = 5)) := by
  unfold tightS
  cases h : levelOf w with
  | none => simp
  | some x =>
    obtain ⟨l, k⟩ := x
    obtain ⟨h1, h2⟩ := level_facts h
    simp only
    refine ⟨by omega, fun _ => ?_⟩
    rw [h2]; omega
theorem signOf_tight {t : Token} (hw : t.kind = 3 → levelOf t.text = none) (k : Nat) : signOf t k = if (tightS (textS t)).1 = k + 1 then some (tightS (textS t)).2 else none := by
  have h0 : levelOf [] = none := by decide
  unfold signOf textS tightS
  by_cases h4 : t.kind = 4
  · simp only [h4, if_true, or_true]
    cases h : levelOf t.text with
    | none => simp
    | some x => obtain ⟨l, kk⟩ := x; by_cases h5 : l = k <;> simp [h5]
  · by_cases h3 : t.kind = 3
    · simp only [h3, true_or, if_true, hw h3]; simp
    · simp [h3, h4, h0]

section
variable (L : List Token) (un : PM XE)

/-- Signs that bind tighter than a number, and as tight as another one at most. -/
def rLoop (than : Nat) : Nat → Nat → Bool → XE → PM XE
  | 0, _, _, _ => pFail L 99
  | f + 1, most, cmp, x => do
    let t ← pHere L
    if (tightS (textS t)).1 ≤ than ∨ most < (tightS (textS t)).1 ∨ ((tightS (textS t)).1 = 1 ∧ cmp = true) then return x
    else
      pNext
      if (tightS (textS t)).1 = 5 then
        let c ← pKind L 2
        rLoop than f (tightS (textS t)).1 (cmp || decide ((tightS (textS t)).1 = 1)) (.mk (tightS (textS t)).2 t.pos c.num [] [x])
      else
        let y ← pChain L un (7 - (tightS (textS t)).1)
        rLoop than f (tightS (textS t)).1 (cmp || decide ((tightS (textS t)).1 = 1)) (.mk (tightS (textS t)).2 t.pos 0 [] [x, y])

/-- One comparison, if there is one. -/
def pOne (x : XE) : PM XE := do
  let t ← pHere L
  match signOf t 0 with
  | none => return x
  | some kind =>
    pNext
    let y ← pChain L un 6
    return .mk kind t.pos 0 [] [x, y]
def stepJ (m : Nat) (x : XE) : PM XE := if m = 1 then pOne L un x else pJoin L (pChain L un (7 - m)) (m - 1) 131073 x
/-- The levels from one on down to another. -/
def pTail (than : Nat) : Nat → XE → PM XE
  | 0, x => pure x
  | m + 1, x => if m + 1 ≤ than then pure x else do
    let x ← stepJ L un (m + 1) x
    pTail than m x
end

theorem pm_assoc {α β γ : Type} {x : PM α} {f : α → PM β} {g : β → PM γ} : PM.bind (PM.bind x f) g = PM.bind x fun v => PM.bind (f v) g := by
  funext a d
  unfold PM.bind
  cases x a d <;> rfl
theorem pm_pure_bind {α β : Type} {v : α} {f : α → PM β} : PM.bind (pure v) f = f v := rfl
theorem pm_bind_pure {α : Type} {x : PM α} : PM.bind x pure = x := by
  funext a d
  unfold PM.bind
  cases x a d <;> rfl

theorem pm_bind_pure2 {α : Type} {x : PM α} : (PM.bind x fun v => pure v) = x := pm_bind_pure

section
variable {L : List Token} {un : PM XE}

theorem tail_chain (j : Nat) (hj : j ≤ 6) : PM.bind un (pTail L un (7 - j) 7) = pChain L un j := by
  have e : ∀ x, pOne L un x = pOne L un x := fun _ => rfl
  match j, hj with
  | 0, _ => exact pm_bind_pure
  | 1, _ => simp [pTail, stepJ, pm_bind, pChain, pm_assoc, pm_bind_pure2]
  | 2, _ => simp [pTail, stepJ, pm_bind, pChain, pm_assoc, pm_bind_pure2]
  | 3, _ => simp [pTail, stepJ, pm_bind, pChain, pm_assoc, pm_bind_pure2]
  | 4, _ => simp [pTail, stepJ, pm_bind, pChain, pm_assoc, pm_bind_pure2]
  | 5, _ => simp [pTail, stepJ, pm_bind, pChain, pm_assoc, pm_bind_pure2]
  | 6, _ => simp [pTail, stepJ, pm_bind, pChain, pm_assoc, pm_bind_pure2]
theorem tail_expr : PM.bind un (pTail L un 0 7) = pExpr L un := by
  have h : pExpr L un = PM.bind (pChain L un 6) (pOne L un) := rfl
  rw [h, ← tail_chain 6 (by omega)]
  simp [pTail, stepJ, pm_bind, pm_assoc, pm_bind_pure, pm_pure_bind]

variable (hK : TokOk L) (hW : WordOk L) (hg : PGood L 1 (fun d => d) un)

theorem join_pass {next : PM XE} {k a d f : Nat} {x : XE} (hW : WordOk L) (h : (tightS (textS (tk L a))).1 ≠ k + 1) : pJoin L next k (f + 1) x a d = .ok x a d := by
  have hs : signOf (tk L a) k = none := by rw [signOf_tight (hW a), if_neg h]
  simp [pJoin, pm_bind, PM.bind, pHere, hs, pm_pure]
theorem stepJ_pass {m a d : Nat} {x : XE} (hW : WordOk L) (hm : 1 ≤ m) (h : (tightS (textS (tk L a))).1 ≠ m) : stepJ L un m x a d = .ok x a d := by
  unfold stepJ
  split
  · rename_i h1
    have hs : signOf (tk L a) 0 = none := by rw [signOf_tight (hW a), if_neg (by omega)]
    simp [pOne, pm_bind, PM.bind, pHere, hs, pm_pure]
  · exact join_pass hW (by omega)
/-- Levels that no sign is of. -/
theorem tail_pass {than a d : Nat} {x : XE} (hW : WordOk L) : ∀ (m : Nat), (tightS (textS (tk L a))).1 ≤ than ∨ m < (tightS (textS (tk L a))).1 → pTail L un than m x a d = .ok x a d
  | 0, _ => rfl
  | m + 1, h => by
    unfold pTail
    split
    · rfl
    · rename_i hn
      simp only [pm_bind, PM.bind]
      rw [stepJ_pass hW (by omega) (by omega)]
      exact tail_pass hW m (by omega)
theorem tail_down {than a d : Nat} {x : XE} (hW : WordOk L) : ∀ (m n : Nat), n = (tightS (textS (tk L a))).1 → than < n → n ≤ m → pTail L un than m x a d = pTail L un than n x a d
  | 0, n, h, h1, h2 => by omega
  | m + 1, n, h, h1, h2 => by
    by_cases hn : n = m + 1
    · rw [hn]
    · rw [← tail_down hW m n h h1 (by omega)]
      conv => lhs; unfold pTail
      rw [if_neg (by omega)]
      simp only [pm_bind, PM.bind]
      rw [stepJ_pass hW (by omega) (by omega)]

include hK
/-- So many rounds do. -/
theorem join_fuel {next : PM XE} {k : Nat} (hn : PGood L 1 (fun d => d) next) : ∀ (f g : Nat) (x : XE) (a d : Nat), a < L.length → L.length < a + f → L.length < a + g → pJoin L next k f x a d = pJoin L next k g x a d := by
  intro f
  induction f with
  | zero => intro g x a d h1 h2; omega
  | succ f ih =>
    intro g x a d h1 h2 h3
    obtain ⟨g, rfl⟩ : ∃ j, g = j + 1 := ⟨g - 1, by omega⟩
    simp only [pJoin, pm_bind, PM.bind, pHere]
    cases hs : signOf (tk L a) k with
    | none => rfl
    | some kind =>
      have hlt := kind_lt (k := 4) hK h1 (by decide) (signOf_kind hs)
      simp only [PM.bind, pNext]
      split
      · simp only [PM.bind]
        cases hx : pKind L 2 (a + 1) d with
        | bad e p a' d' => rfl
        | ok v a' d' =>
          obtain ⟨g1, g2, _⟩ := g_kind hK (k := 2) (by omega) _ _ _ _ _ hx hlt
          exact ih g _ a' d' g2 (by omega) (by omega)
      · simp only [PM.bind]
        cases hx : next (a + 1) d with
        | bad e p a' d' => rfl
        | ok v a' d' =>
          obtain ⟨g1, g2, _⟩ := hn _ _ _ _ _ hx hlt
          exact ih g _ a' d' g2 (by omega) (by omega)

omit hK in
theorem loop_done {than f a d : Nat} {x : XE} : rLoop L un than (f + 1) 1 true x a d = .ok x a d := by
  simp only [rLoop, pm_bind, PM.bind, pHere]
  split
  · rfl
  · rename_i h; exfalso; apply h; simp only [and_true]; omega

include hW hg
theorem loop_tail {than : Nat} (hL : L.length ≤ 131072) : ∀ (f m : Nat) (x : XE) (a d : Nat), a < L.length → L.length < a + f → m ≤ 7 → rLoop L un than f m false x a d = pTail L un than m x a d := by
  intro f
  induction f with
  | zero => intro m x a d h1 h2; omega
  | succ f ih =>
    intro m x a d h1 h2 hm
    have hsk := signOf_tight (hW a)
    have htf := (tight_facts (w := textS (tk L a))).2
    simp only [rLoop, pm_bind, PM.bind, pHere]
    obtain ⟨n, hn⟩ : ∃ n, n = (tightS (textS (tk L a))).1 := ⟨_, rfl⟩
    obtain ⟨kind, hkind⟩ : ∃ n, n = (tightS (textS (tk L a))).2 := ⟨_, rfl⟩
    rw [← hn, ← hkind] at htf
    simp only [← hn, ← hkind] at hsk ⊢
    by_cases hstop : n ≤ than ∨ m < n
    · rw [if_pos (by rcases hstop with h | h <;> simp [h]), tail_pass hW m (by omega)]; rfl
    · rw [if_neg (by simp; omega), tail_down hW m n hn (by omega) (by omega)]
      have hk : signOf (tk L a) (n - 1) = some kind := by rw [hsk, if_pos (by omega)]
      have hlt := kind_lt (k := 4) hK h1 (by decide) (signOf_kind hk)
      obtain ⟨n', hn'⟩ : ∃ j, n = j + 1 := ⟨n - 1, by omega⟩
      have ht : pTail L un than n x a d = PM.bind (stepJ L un n x) (pTail L un than (n - 1)) a d := by
        rw [hn']
        conv => lhs; unfold pTail
        rw [if_neg (by omega)]; rfl
      rw [ht]
      by_cases h1n : n = 1
      · subst h1n
        simp only [stepJ, if_true, pOne, pm_bind, PM.bind, pHere, hk, pNext]
        simp only [show ¬ (1 : Nat) = 5 by omega, if_false]
        cases hx : pChain L un (7 - 1) (a + 1) d with
        | bad e p a' d' => simp only [PM.bind, hx]
        | ok v a' d' =>
          obtain ⟨g1, g2, _⟩ := g_chain hK hg 6 _ _ _ _ _ hx hlt
          obtain ⟨f, rfl⟩ : ∃ j, f = j + 1 := ⟨f - 1, by omega⟩
          simp only [PM.bind, hx, decide_true, Bool.or_true, loop_done, pm_pure, Nat.sub_self, pTail]
      · have e14 : (kind = 14 ∨ kind = 15) ↔ n = 5 := htf (by omega)
        have hst : stepJ L un n x = pJoin L (pChain L un (7 - n)) (n - 1) (131072 + 1) x := by unfold stepJ; rw [if_neg h1n]
        have hjoin : stepJ L un n x a d = (if kind = 14 ∨ kind = 15 then (do
            let c ← pKind L 2
            pJoin L (pChain L un (7 - n)) (n - 1) 131072 (.mk kind (tk L a).pos c.num [] [x]))
          else (do
            let y ← pChain L un (7 - n)
            pJoin L (pChain L un (7 - n)) (n - 1) 131072 (.mk kind (tk L a).pos 0 [] [x, y]))) (a + 1) d := by
          rw [hst, pJoin]
          simp only [pm_bind, PM.bind, pHere, hk, pNext]
        have hgc := g_chain hK hg (7 - n)
        have fin : ∀ (x' : XE) (a' : Nat), a < a' → a' < L.length → rLoop L un than f n false x' a' d = match pJoin L (pChain L un (7 - n)) (n - 1) 131072 x' a' d with
            | .ok v a'' d'' => pTail L un than (n - 1) v a'' d''
            | .bad e p a'' d'' => .bad e p a'' d'' := by
          intro x' a' h3 h4
          rw [ih n x' a' d h4 (by omega) (by omega)]
          have ht' : pTail L un than n x' a' d = PM.bind (stepJ L un n x') (pTail L un than (n - 1)) a' d := by
            rw [hn']
            conv => lhs; unfold pTail
            rw [if_neg (by omega)]; rfl
          have hst' : stepJ L un n x' = pJoin L (pChain L un (7 - n)) (n - 1) 131073 x' := by unfold stepJ; rw [if_neg h1n]
          rw [ht', PM.bind, hst', join_fuel hK hgc 131073 131072 x' a' d h4 (by omega) (by omega)]
          cases pJoin L (pChain L un (7 - n)) (n - 1) 131072 x' a' d <;> rfl
        simp only [PM.bind, hjoin, pNext, decide_eq_false h1n, Bool.or_false]
        by_cases h5 : n = 5
        · rw [if_pos h5, if_pos (e14.2 h5)]
          simp only [pm_bind, PM.bind]
          cases hx : pKind L 2 (a + 1) d with
          | bad e p a' d' => rfl
          | ok v a' d' =>
            obtain ⟨g1, g2, g3⟩ := g_kind hK (k := 2) (by omega) _ _ _ _ _ hx hlt
            have g3 : d' = d := g3
            subst g3
            simp only [fin _ a' (by omega) g2]
            cases pJoin L (pChain L un (7 - n)) (n - 1) 131072 (XE.mk kind (tk L a).pos v.num [] [x]) a' d' <;> rfl
        · rw [if_neg h5, if_neg (fun h => h5 (e14.1 h))]
          simp only [pm_bind, PM.bind]
          cases hx : pChain L un (7 - n) (a + 1) d with
          | bad e p a' d' => rfl
          | ok v a' d' =>
            obtain ⟨g1, g2, g3⟩ := hgc _ _ _ _ _ hx hlt
            have g3 : d' = d := g3
            subst g3
            simp only [fin _ a' (by omega) g2]
            cases pJoin L (pChain L un (7 - n)) (n - 1) 131072 (XE.mk kind (tk L a).pos 0 [] [x, v]) a' d' <;> rfl

/-- The expression of signs that bind tighter than a number. -/
def pThan (L : List Token) (un : PM XE) (than : Nat) : PM XE := if than = 0 then pExpr L un else pChain L un (7 - than)
theorem loop_than (hL : L.length ≤ 131072) {than : Nat} (ht : than ≤ 7) {a d : Nat} (ha : a < L.length) : PM.bind un (rLoop L un than 131073 7 false) a d = pThan L un than a d := by
  have h : PM.bind un (rLoop L un than 131073 7 false) a d = PM.bind un (pTail L un than 7) a d := by
    unfold PM.bind
    cases hx : un a d with
    | bad e p a' d' => rfl
    | ok v a' d' =>
      obtain ⟨g1, g2, _⟩ := hg _ _ _ _ _ hx ha
      exact loop_tail hK hW hg hL 131073 7 v a' d' g2 (by omega) (by omega)
  rw [h]
  unfold pThan
  split
  · rename_i h0; rw [h0, tail_expr]
  · rw [← tail_chain (7 - than) (by omega), show 7 - (7 - than) = than by omega]
end
end Go.Proofs.YtkeoalhglkfbkaaDoor

/-
  Shallow forms of further functions. No conditions.
-/
namespace Go.Proofs.YtkeoalhglkfbkaaDoor
open Go Hk
/- (*hauberk/hauberkref12.Reader).function -/
noncomputable def m78_l0 (K : CallO) (m : Nat) (s : List AVal × Heap) : Option R :=
  (fun x0v34 x2v35 x3v36 h37 => bindRes (K 151 [(AVal.untok x0v34), (AVal.untok (.str [44]))] h37) (fun t38 h39 => acond t38 ((afieldAt 2 x3v36).bind fun t40 => (aload false 1 h39 t40).bind fun t41 => bindRes (K 150 [(AVal.untok x0v34)] (hide (lockIds [0] [t40]) h39)) (fun t42 h43 => bindVH (abuildSlice 1 6 [(.int .i64 0), (.str []), (.int .i64 0), (.int .i64 0), (.int .i64 0), (.bool false)] [(0, t42)] (hide (lockIds [0] [t40]) (unhide (lockIds [0] [t40]) h39 h43))) fun t44 h45 => bindVH (aappend 6 56 (unhide (lockIds [0] [t40]) (unhide (lockIds [0] [t40]) h39 h43) h45) t41 t44) fun t46 h47 => (afieldAt 2 x3v36).bind fun t48 => (astore 1 h47 t48 t46).bind fun h49 => endR m .normal [x0v34, x2v35, x3v36] h49) (fun _ _ => none)) (endR m (.exit 0) [x0v34, x2v35, x3v36] h39)) (fun _ _ => none)) (List.getD s.1 0 .junk) (List.getD s.1 1 .junk) (List.getD s.1 2 .junk) s.2
noncomputable def m78 (K : CallO) (a0 : AVal) (h0 : Heap) : Option (Res × Heap) :=
  (bindVH (anew 8 h0 (.agg [(.int .i64 0), (.str []), (.slice [] .nil), (.bool false), (.int .i64 0), (.int .i64 0), (.int .i64 0), (.slice [] .nil)])) fun t0 h1 => bindVH (anew 8 h1 (.agg [(.int .i64 0), (.str []), (.slice [] .nil), (.bool false), (.int .i64 0), (.int .i64 0), (.int .i64 0), (.slice [] .nil)])) fun t2 h3 => bindRes (K 147 [(AVal.untok a0), (AVal.untok (.str [102, 110]))] h3) (fun t4 h5 => bindRes (K 148 [(AVal.untok a0), (AVal.untok (.int .i64 1))] h5) (fun t6 h7 => bindVH (anew 4 h7 (.agg [(.int .i64 0), (.int .i64 0), (.int .i64 0), (.str [])])) fun t8 h9 => (astore 4 h9 t8 t6).bind fun h10 => (afieldAt 1 t8).bind fun t11 => (aload false 1 h10 t11).bind fun t12 => (afieldAt 0 t2).bind fun t13 => (astore 1 h10 t13 t12).bind fun h14 => (afieldAt 3 t8).bind fun t15 => (aload false 1 h14 t15).bind fun t16 => (afieldAt 1 t2).bind fun t17 => (astore 1 h14 t17 t16).bind fun h18 => bindRes (K 147 [(AVal.untok a0), (AVal.untok (.str [40]))] h18) (fun t19 h20 => bindRes (K 149 [(AVal.untok a0), (AVal.untok (.str [41]))] h20) (fun t21 h22 => (aun .not t21).bind fun t23 => (acond t23 ((afieldAt 2 t2).bind fun t24 => (aload false 1 h22 t24).bind fun t25 => bindRes (K 150 [(AVal.untok a0)] (hide (lockIds [0] [t24]) h22)) (fun t26 h27 => bindVH (abuildSlice 1 6 [(.int .i64 0), (.str []), (.int .i64 0), (.int .i64 0), (.int .i64 0), (.bool false)] [(0, t26)] (hide (lockIds [0] [t24]) (unhide (lockIds [0] [t24]) h22 h27))) fun t28 h29 => bindVH (aappend 6 56 (unhide (lockIds [0] [t24]) (unhide (lockIds [0] [t24]) h22 h27) h29) t25 t28) fun t30 h31 => (afieldAt 2 t2).bind fun t32 => (astore 1 h31 t32 t30).bind fun h33 => (lpW (m78_l0 K (List.length h33)) ([a0, t0, t2], h33)).bind fun r50 => (fun x0v52 x2v53 x3v54 h55 => Ex.thenDo r50.1 none (fun e51 => Ex.inBlock 0 e51 (some (.normal, [x0v52, x2v53, x3v54], h55)) (fun e56 => some (e56, [x0v52, x2v53, x3v54], h55)))) (List.getD r50.2.1 0 .junk) (List.getD r50.2.1 1 .junk) (List.getD r50.2.1 2 .junk) r50.2.2) (fun _ _ => none)) (some (.normal, [a0, t0, t2], h22))).bind fun r57 => (fun x0v58 x2v59 x3v60 h61 => Ex.nrm r57.1 (bindRes (K 147 [(AVal.untok x0v58), (AVal.untok (.str [41]))] h61) (fun t62 h63 => bindRes (K 151 [(AVal.untok x0v58), (AVal.untok (.str [58]))] h63) (fun t64 h65 => (acond t64 ((afieldAt 3 x3v60).bind fun t66 => (astore 1 h65 t66 (.bool true)).bind fun h67 => bindRes (K 152 [(AVal.untok x0v58)] h67) (fun t68 h69 => bindRes (K 153 [(AVal.untok x0v58), (AVal.untok (.bool true)), (AVal.untok t68)] h69) (fun t70 h71 => (afieldAt 4 x3v60).bind fun t72 => (astore 3 h71 t72 t70).bind fun h73 => some (.normal, [x0v58, x2v59, x3v60], h73)) (fun _ _ => none)) (fun _ _ => none)) (some (.normal, [x0v58, x2v59, x3v60], h65))).bind fun r74 => (fun x0v75 x2v76 x3v77 h78 => Ex.nrm r74.1 (bindRes (K 154 [(AVal.untok x0v75)] h78) (fun t79 h80 => (afieldAt 7 x3v77).bind fun t81 => (astore 1 h80 t81 t79).bind fun h82 => (aload true 8 h82 x3v77).bind fun t83 => (astore 8 h82 x2v76 t83).bind fun h84 => some (.ret, [x2v76], h84)) (fun _ _ => none))) (List.getD r74.2.1 0 .junk) (List.getD r74.2.1 1 .junk) (List.getD r74.2.1 2 .junk) r74.2.2) (fun _ _ => none)) (fun _ _ => none))) (List.getD r57.2.1 0 .junk) (List.getD r57.2.1 1 .junk) (List.getD r57.2.1 2 .junk) r57.2.2) (fun _ _ => none)) (fun _ _ => none)) (fun _ _ => none)) (fun _ _ => none)).bind fun r85 => (fun x2v86 h87 => Ex.endF r85.1 ((aload true 8 h87 x2v86).bind fun t88 => finR (List.length h0) t88 h87)) (List.getD r85.2.1 0 .junk) r85.2.2
theorem m78_eq (K : CallO) (a0 : AVal) (h0 : Heap) : evB Tryd.prog ann lpW K 78 [a0] h0 = m78 (callP ann K) a0 h0 := by kernel_rfl

/- (*hauberk/hauberkref12.Reader).eat -/
noncomputable def m147 (K : CallO) (a0 a1 : AVal) (h0 : Heap) : Option (Res × Heap) :=
  ((anilCheck a0).bind fun t0 => (afieldAt 3 t0).bind fun t1 => (afieldAt 0 t1).bind fun t2 => (aload false 1 h0 t2).bind fun t3 => (abin .neq t3 (.int .i64 0)).bind fun t4 => acond t4 (some (.ret, [], h0)) (bindRes (K 184 [(AVal.untok a0)] h0) (fun t5 h6 => (abin .neq t5 a1).bind fun t7 => acond t7 (bindRes (K 185 [(AVal.untok a0), (AVal.untok (.int .i64 10))] h6) (fun t8 h9 => some (.ret, [], h9)) (fun _ _ => none)) ((anilCheck a0).bind fun t10 => (afieldAt 1 t10).bind fun t11 => (aload false 1 h6 t11).bind fun t12 => (abin .add t12 (.int .i64 1)).bind fun t13 => (anilCheck a0).bind fun t14 => (afieldAt 1 t14).bind fun t15 => (astore 1 h6 t15 t13).bind fun h16 => some (.normal, [], h16))) (fun _ _ => none))).bind fun r17 => (fun h18 => Ex.endF r17.1 (finR (List.length h0) (.tuple []) h18))  r17.2.2
theorem m147_eq (K : CallO) (a0 a1 : AVal) (h0 : Heap) : evB Tryd.prog ann lpW K 147 [a0, a1] h0 = m147 (callP ann K) a0 a1 h0 := by kernel_rfl

/- (*hauberk/hauberkref12.Reader).some -/
noncomputable def m148 (K : CallO) (a0 a1 : AVal) (h0 : Heap) : Option (Res × Heap) :=
  (bindVH (anew 4 h0 (.agg [(.int .i64 0), (.int .i64 0), (.int .i64 0), (.str [])])) fun t0 h1 => (anilCheck a0).bind fun t2 => (afieldAt 3 t2).bind fun t3 => (afieldAt 0 t3).bind fun t4 => (aload false 1 h1 t4).bind fun t5 => (abin .neq t5 (.int .i64 0)).bind fun t6 => acond t6 ((abuild [(.int .i64 0), (.int .i64 0), (.int .i64 0), (.str [])] [(0, 1), (1, 1), (2, 1), (3, 1)] []).bind fun t7 => (astore 4 h1 t0 t7).bind fun h8 => some (.ret, [t0], h8)) ((anilCheck a0).bind fun t9 => (afieldAt 0 t9).bind fun t10 => (aload false 1 h1 t10).bind fun t11 => (anilCheck a0).bind fun t12 => (afieldAt 1 t12).bind fun t13 => (aload false 1 h1 t13).bind fun t14 => (aindexSl 4 t11 t14).bind fun t15 => (aload true 4 h1 t15).bind fun t16 => bindVH (anew 4 (hide (lockIds [0, 1, 2] [t10, t13, t15]) h1) (.agg [(.int .i64 0), (.int .i64 0), (.int .i64 0), (.str [])])) fun t17 h18 => (astore 4 (unhide (lockIds [0, 1, 2] [t10, t13, t15]) h1 h18) t17 t16).bind fun h19 => (afieldAt 0 t17).bind fun t20 => (aload false 1 h19 t20).bind fun t21 => (abin .neq t21 a1).bind fun t22 => acond t22 (bindRes (K 185 [(AVal.untok a0), (AVal.untok (.int .i64 10))] h19) (fun t23 h24 => (abuild [(.int .i64 0), (.int .i64 0), (.int .i64 0), (.str [])] [(0, 1), (1, 1), (2, 1), (3, 1)] []).bind fun t25 => (astore 4 h24 t0 t25).bind fun h26 => some (.ret, [t0], h26)) (fun _ _ => none)) ((anilCheck a0).bind fun t27 => (afieldAt 1 t27).bind fun t28 => (aload false 1 h19 t28).bind fun t29 => (abin .add t29 (.int .i64 1)).bind fun t30 => (anilCheck a0).bind fun t31 => (afieldAt 1 t31).bind fun t32 => (astore 1 h19 t32 t30).bind fun h33 => (aload true 4 h33 t17).bind fun t34 => (astore 4 h33 t0 t34).bind fun h35 => some (.ret, [t0], h35)))).bind fun r36 => (fun x4v37 h38 => Ex.endF r36.1 ((aload true 4 h38 x4v37).bind fun t39 => finR (List.length h0) t39 h38)) (List.getD r36.2.1 0 .junk) r36.2.2
theorem m148_eq (K : CallO) (a0 a1 : AVal) (h0 : Heap) : evB Tryd.prog ann lpW K 148 [a0, a1] h0 = m148 (callP ann K) a0 a1 h0 := by kernel_rfl

/- (*hauberk/hauberkref12.Reader).sees -/
noncomputable def m149 (K : CallO) (a0 a1 : AVal) (h0 : Heap) : Option (Res × Heap) :=
  ((anilCheck a0).bind fun t0 => (afieldAt 3 t0).bind fun t1 => (afieldAt 0 t1).bind fun t2 => (aload false 1 h0 t2).bind fun t3 => (abin .eql t3 (.int .i64 0)).bind fun t4 => (guardSel true t4 (kv0 a0 h0) (kv0 (.tuple []) h0)).bind (fin0 (fun t5 h6 => (guardSel true t4 (bindRes (K 184 [(AVal.untok t5)] h6) (fun t7 h8 => kv0 t7 h8) kp0) (kv0 (.tuple []) h6)).bind (fin0 (fun t9 h10 => (guardSel true t4 (kv0 a1 h10) (kv0 (.tuple []) h10)).bind (fin0 (fun t11 h12 => (guardSel true t4 ((abin .eql t9 t11).bind fun t13 => kv0 t13 h12) (kv0 (.tuple []) h12)).bind (fin0 (fun t14 h15 => (apick t4 t14 (.bool false)).bind fun t16 => some (.ret, [t16], h15)) (fun _ _ => none))) (fun _ _ => none))) (fun _ _ => none))) (fun _ _ => none))).bind fun r17 => (fun x4v18 h19 => Ex.endF r17.1 (finR (List.length h0) x4v18 h19)) (List.getD r17.2.1 0 .junk) r17.2.2
theorem m149_eq (K : CallO) (a0 a1 : AVal) (h0 : Heap) : evB Tryd.prog ann lpW K 149 [a0, a1] h0 = m149 (callP ann K) a0 a1 h0 := by kernel_rfl

/- (*hauberk/hauberkref12.Reader).param -/
noncomputable def m150 (K : CallO) (a0 : AVal) (h0 : Heap) : Option (Res × Heap) :=
  (bindVH (anew 6 h0 (.agg [(.int .i64 0), (.str []), (.int .i64 0), (.int .i64 0), (.int .i64 0), (.bool false)])) fun t0 h1 => bindVH (anew 6 h1 (.agg [(.int .i64 0), (.str []), (.int .i64 0), (.int .i64 0), (.int .i64 0), (.bool false)])) fun t2 h3 => bindRes (K 151 [(AVal.untok a0), (AVal.untok (.str [111, 117, 116]))] h3) (fun t4 h5 => (afieldAt 5 t2).bind fun t6 => (astore 1 h5 t6 t4).bind fun h7 => bindRes (K 152 [(AVal.untok a0)] h7) (fun t8 h9 => bindRes (K 148 [(AVal.untok a0), (AVal.untok (.int .i64 1))] h9) (fun t10 h11 => bindVH (anew 4 h11 (.agg [(.int .i64 0), (.int .i64 0), (.int .i64 0), (.str [])])) fun t12 h13 => (astore 4 h13 t12 t10).bind fun h14 => (afieldAt 1 t12).bind fun t15 => (aload false 1 h14 t15).bind fun t16 => (afieldAt 0 t2).bind fun t17 => (astore 1 h14 t17 t16).bind fun h18 => (afieldAt 3 t12).bind fun t19 => (aload false 1 h18 t19).bind fun t20 => (afieldAt 1 t2).bind fun t21 => (astore 1 h18 t21 t20).bind fun h22 => bindRes (K 147 [(AVal.untok a0), (AVal.untok (.str [58]))] h22) (fun t23 h24 => bindRes (K 153 [(AVal.untok a0), (AVal.untok (.bool false)), (AVal.untok t8)] h24) (fun t25 h26 => (afieldAt 2 t2).bind fun t27 => (astore 3 h26 t27 t25).bind fun h28 => (aload true 6 h28 t2).bind fun t29 => (astore 6 h28 t0 t29).bind fun h30 => some (.ret, [t0], h30)) (fun _ _ => none)) (fun _ _ => none)) (fun _ _ => none)) (fun _ _ => none)) (fun _ _ => none)).bind fun r31 => (fun x2v32 h33 => Ex.endF r31.1 ((aload true 6 h33 x2v32).bind fun t34 => finR (List.length h0) t34 h33)) (List.getD r31.2.1 0 .junk) r31.2.2
theorem m150_eq (K : CallO) (a0 : AVal) (h0 : Heap) : evB Tryd.prog ann lpW K 150 [a0] h0 = m150 (callP ann K) a0 h0 := by kernel_rfl

/- (*hauberk/hauberkref12.Reader).may -/
noncomputable def m151 (K : CallO) (a0 a1 : AVal) (h0 : Heap) : Option (Res × Heap) :=
  ((anilCheck a0).bind fun t0 => (afieldAt 3 t0).bind fun t1 => (afieldAt 0 t1).bind fun t2 => (aload false 1 h0 t2).bind fun t3 => (abin .eql t3 (.int .i64 0)).bind fun t4 => (guardSel true t4 (kv0 a0 h0) (kv0 (.tuple []) h0)).bind (fin0 (fun t5 h6 => (guardSel true t4 (bindRes (K 184 [(AVal.untok t5)] h6) (fun t7 h8 => kv0 t7 h8) kp0) (kv0 (.tuple []) h6)).bind (fin0 (fun t9 h10 => (guardSel true t4 (kv0 a1 h10) (kv0 (.tuple []) h10)).bind (fin0 (fun t11 h12 => (guardSel true t4 ((abin .eql t9 t11).bind fun t13 => kv0 t13 h12) (kv0 (.tuple []) h12)).bind (fin0 (fun t14 h15 => (apick t4 t14 (.bool false)).bind fun t16 => acond t16 ((anilCheck a0).bind fun t17 => (afieldAt 1 t17).bind fun t18 => (aload false 1 h15 t18).bind fun t19 => (abin .add t19 (.int .i64 1)).bind fun t20 => (anilCheck a0).bind fun t21 => (afieldAt 1 t21).bind fun t22 => (astore 1 h15 t22 t20).bind fun h23 => some (.ret, [(.bool true)], h23)) (some (.ret, [(.bool false)], h15))) (fun _ _ => none))) (fun _ _ => none))) (fun _ _ => none))) (fun _ _ => none))).bind fun r24 => (fun x4v25 h26 => Ex.endF r24.1 (finR (List.length h0) x4v25 h26)) (List.getD r24.2.1 0 .junk) r24.2.2
theorem m151_eq (K : CallO) (a0 a1 : AVal) (h0 : Heap) : evB Tryd.prog ann lpW K 151 [a0, a1] h0 = m151 (callP ann K) a0 a1 h0 := by kernel_rfl

/- (*hauberk/hauberkref12.Reader).label -/
noncomputable def m152 (K : CallO) (a0 : AVal) (h0 : Heap) : Option (Res × Heap) :=
  (bindRes (K 151 [(AVal.untok a0), (AVal.untok (.str [115, 101, 99]))] h0) (fun t0 h1 => acond t0 (some (.ret, [(.int .i64 1)], h1)) (bindRes (K 147 [(AVal.untok a0), (AVal.untok (.str [112, 117, 98]))] h1) (fun t2 h3 => some (.ret, [(.int .i64 0)], h3)) (fun _ _ => none))) (fun _ _ => none)).bind fun r4 => (fun x2v5 h6 => Ex.endF r4.1 (finR (List.length h0) x2v5 h6)) (List.getD r4.2.1 0 .junk) r4.2.2
theorem m152_eq (K : CallO) (a0 : AVal) (h0 : Heap) : evB Tryd.prog ann lpW K 152 [a0] h0 = m152 (callP ann K) a0 h0 := by kernel_rfl

/- (*hauberk/hauberkref12.Reader).kind -/
noncomputable def m153 (K : CallO) (a0 a1 a2 : AVal) (h0 : Heap) : Option (Res × Heap) :=
  (bindVH (anew 3 h0 (.agg [(.int .i64 0), (.int .i64 0), (.int .i64 0)])) fun t0 h1 => (abuild [(.int .i64 0), (.int .i64 0), (.int .i64 0)] [(0, 1), (1, 1), (2, 1)] [(2, a2)]).bind fun t2 => bindVH (anew 3 h1 (.agg [(.int .i64 0), (.int .i64 0), (.int .i64 0)])) fun t3 h4 => (astore 3 h4 t3 t2).bind fun h5 => bindRes (K 151 [(AVal.untok a0), (AVal.untok (.str [109, 97, 115, 107]))] h5) (fun t6 h7 => (acond t6 ((afieldAt 0 t3).bind fun t8 => (astore 1 h7 t8 (.int .i64 1)).bind fun h9 => some (.normal, [a0, t0, t3, (.bool false)], h9)) ((aun .not a1).bind fun t10 => (guardSel true t10 (kv0 a0 h7) (kv0 (.tuple []) h7)).bind (fin0 (fun t11 h12 => (guardSel true t10 (bindRes (K 151 [(AVal.untok t11), (AVal.untok (.str [117, 56]))] h12) (fun t13 h14 => kv0 t13 h14) kp0) (kv0 (.tuple []) h12)).bind (fin0 (fun t15 h16 => (apick t10 t15 (.bool false)).bind fun t17 => (acond t17 ((afieldAt 0 t3).bind fun t18 => (astore 1 h16 t18 (.int .i64 2)).bind fun h19 => some (.normal, [a0, t0, t3, (.bool true)], h19)) (bindRes (K 147 [(AVal.untok a0), (AVal.untok (.str [117, 51, 50]))] h16) (fun t20 h21 => (aun .not a1).bind fun t22 => (guardSel true t22 (kv0 a0 h21) (kv0 (.tuple []) h21)).bind (fin0 (fun t23 h24 => (guardSel true t22 (bindRes (K 149 [(AVal.untok t23), (AVal.untok (.str [91]))] h24) (fun t25 h26 => kv0 t25 h26) kp0) (kv0 (.tuple []) h24)).bind (fin0 (fun t27 h28 => (apick t22 t27 (.bool false)).bind fun t29 => some (.normal, [a0, t0, t3, t29], h28)) (fun _ _ => none))) (fun _ _ => none))) (fun _ _ => none))).bind fun r30 => (fun x0v31 x6v32 x7v33 x8v34 h35 => Ex.nrm r30.1 (some (.normal, [x0v31, x6v32, x7v33, x8v34], h35))) (List.getD r30.2.1 0 .junk) (List.getD r30.2.1 1 .junk) (List.getD r30.2.1 2 .junk) (List.getD r30.2.1 3 .junk) r30.2.2) (fun _ _ => none))) (fun _ _ => none)))).bind fun r36 => (fun x0v37 x6v38 x7v39 x8v40 h41 => Ex.nrm r36.1 ((acond x8v40 (bindRes (K 147 [(AVal.untok x0v37), (AVal.untok (.str [91]))] h41) (fun t42 h43 => (anilCheck x0v37).bind fun t44 => (afieldAt 0 t44).bind fun t45 => (aload false 1 h43 t45).bind fun t46 => (anilCheck x0v37).bind fun t47 => (afieldAt 1 t47).bind fun t48 => (aload false 1 h43 t48).bind fun t49 => (aindexSl 4 t46 t49).bind fun t50 => (afieldAt 2 t50).bind fun t51 => (aload false 1 h43 t51).bind fun t52 => (abin .eql t52 (.int .i64 0)).bind fun t53 => (acond t53 (bindRes (K 185 [(AVal.untok x0v37), (AVal.untok (.int .i64 10))] h43) (fun t54 h55 => some (.normal, [x0v37, x6v38, x7v39], h55)) (fun _ _ => none)) (some (.normal, [x0v37, x6v38, x7v39], h43))).bind fun r56 => (fun x0v57 x6v58 x7v59 h60 => Ex.nrm r56.1 (bindRes (K 148 [(AVal.untok x0v57), (AVal.untok (.int .i64 2))] h60) (fun t61 h62 => bindVH (anew 4 h62 (.agg [(.int .i64 0), (.int .i64 0), (.int .i64 0), (.str [])])) fun t63 h64 => (astore 4 h64 t63 t61).bind fun h65 => (afieldAt 2 t63).bind fun t66 => (aload false 1 h65 t66).bind fun t67 => (afieldAt 1 x7v59).bind fun t68 => (astore 1 h65 t68 t67).bind fun h69 => bindRes (K 147 [(AVal.untok x0v57), (AVal.untok (.str [93]))] h69) (fun t70 h71 => some (.normal, [x6v58, x7v59], h71)) (fun _ _ => none)) (fun _ _ => none))) (List.getD r56.2.1 0 .junk) (List.getD r56.2.1 1 .junk) (List.getD r56.2.1 2 .junk) r56.2.2) (fun _ _ => none)) (some (.normal, [x6v38, x7v39], h41))).bind fun r72 => (fun x6v73 x7v74 h75 => Ex.nrm r72.1 ((aload true 3 h75 x7v74).bind fun t76 => (astore 3 h75 x6v73 t76).bind fun h77 => some (.ret, [x6v73], h77))) (List.getD r72.2.1 0 .junk) (List.getD r72.2.1 1 .junk) r72.2.2)) (List.getD r36.2.1 0 .junk) (List.getD r36.2.1 1 .junk) (List.getD r36.2.1 2 .junk) (List.getD r36.2.1 3 .junk) r36.2.2) (fun _ _ => none)).bind fun r78 => (fun x6v79 h80 => Ex.endF r78.1 ((aload true 3 h80 x6v79).bind fun t81 => finR (List.length h0) t81 h80)) (List.getD r78.2.1 0 .junk) r78.2.2
theorem m153_eq (K : CallO) (a0 a1 a2 : AVal) (h0 : Heap) : evB Tryd.prog ann lpW K 153 [a0, a1, a2] h0 = m153 (callP ann K) a0 a1 a2 h0 := by kernel_rfl

/- (*hauberk/hauberkref12.Reader).block -/
noncomputable def m154_l0 (K : CallO) (m : Nat) (s : List AVal × Heap) : Option R :=
  (fun x0v6 x2v7 x3v8 h9 => (anilCheck x0v6).bind fun t10 => (afieldAt 3 t10).bind fun t11 => (afieldAt 0 t11).bind fun t12 => (aload false 1 h9 t12).bind fun t13 => (abin .eql t13 (.int .i64 0)).bind fun t14 => (guardSel true t14 (kv0 x0v6 h9) (kv0 (.tuple []) h9)).bind (fin0 (fun t15 h16 => (guardSel true t14 (bindRes (K 149 [(AVal.untok t15), (AVal.untok (.str [125]))] h16) (fun t17 h18 => kv0 t17 h18) kp0) (kv0 (.tuple []) h16)).bind (fin0 (fun t19 h20 => (guardSel true t14 ((aun .not t19).bind fun t21 => kv0 t21 h20) (kv0 (.tuple []) h20)).bind (fin0 (fun t22 h23 => (apick t14 t22 (.bool false)).bind fun t24 => acond t24 (bindRes (K 187 [(AVal.untok x0v6)] h23) (fun t25 h26 => bindVH (abuildSlice 1 11 [(.int .i64 0), (.int .i64 0), (.int .i64 0), (.str []), (.int .i64 0), (.int .i64 0), (.int .i64 0), (.slice [] .nil), (.slice [] .nil), (.slice [] .nil), (.bool false)] [(0, t25)] h26) fun t27 h28 => bindVH (aappend 11 144 h28 x3v8 t27) fun t29 h30 => endR m .normal [x0v6, x2v7, t29] h30) (fun _ _ => none)) (endR m (.exit 0) [x0v6, x2v7, x3v8] h23)) (fun _ _ => none))) (fun _ _ => none))) (fun _ _ => none))) (List.getD s.1 0 .junk) (List.getD s.1 1 .junk) (List.getD s.1 2 .junk) s.2
noncomputable def m154 (K : CallO) (a0 : AVal) (h0 : Heap) : Option (Res × Heap) :=
  ((fun (t1 : AVal) (h0 : Heap) => (fun (t3 : AVal) (h2 : Heap) => bindRes (K 186 [(AVal.untok a0), (AVal.untok (.str [123]))] h2) (fun t4 h5 => (lpW (m154_l0 K (List.length h5)) ([a0, t1, t3], h5)).bind fun r31 => (fun x0v33 x2v34 x3v35 h36 => Ex.thenDo r31.1 none (fun e32 => Ex.inBlock 0 e32 (bindRes (K 188 [(AVal.untok x0v33), (AVal.untok (.str [125]))] h36) (fun t38 h39 => some (.ret, [x3v35], h39)) (fun _ _ => none)) (fun e37 => some (e37, [x2v34], h36)))) (List.getD r31.2.1 0 .junk) (List.getD r31.2.1 1 .junk) (List.getD r31.2.1 2 .junk) r31.2.2) (fun _ _ => none)) (.slice [] (.own (List.length h0))) (h0 ++ [.front 0 0])) (.slice [] (.own (List.length h0))) (h0 ++ [.front 0 0])).bind fun r40 => (fun x2v41 h42 => Ex.endF r40.1 (finR (List.length h0) x2v41 h42)) (List.getD r40.2.1 0 .junk) r40.2.2
theorem m154_eq (K : CallO) (a0 : AVal) (h0 : Heap) : evB Tryd.prog ann lpW K 154 [a0] h0 = m154 (callP ann K) a0 h0 := by kernel_rfl

/- (*hauberk/hauberkref12.Reader).text -/
noncomputable def m184 (K : CallO) (a0 : AVal) (h0 : Heap) : Option (Res × Heap) :=
  ((anilCheck a0).bind fun t0 => (afieldAt 0 t0).bind fun t1 => (aload false 1 h0 t1).bind fun t2 => (anilCheck a0).bind fun t3 => (afieldAt 1 t3).bind fun t4 => (aload false 1 h0 t4).bind fun t5 => (aindexSl 4 t2 t5).bind fun t6 => (aload true 4 h0 t6).bind fun t7 => bindVH (anew 4 (hide (lockIds [0, 1, 2] [t1, t4, t6]) h0) (.agg [(.int .i64 0), (.int .i64 0), (.int .i64 0), (.str [])])) fun t8 h9 => (astore 4 (unhide (lockIds [0, 1, 2] [t1, t4, t6]) h0 h9) t8 t7).bind fun h10 => (afieldAt 0 t8).bind fun t11 => (aload false 1 h10 t11).bind fun t12 => (abin .eql t12 (.int .i64 3)).bind fun t13 => (guardSel false t13 ((afieldAt 0 t8).bind fun t14 => kv0 t14 h10) (kv0 (.tuple []) h10)).bind (fin0 (fun t15 h16 => (guardSel false t13 ((aload false 1 h16 t15).bind fun t17 => kv0 t17 h16) (kv0 (.tuple []) h16)).bind (fin0 (fun t18 h19 => (guardSel false t13 ((abin .eql t18 (.int .i64 4)).bind fun t20 => kv0 t20 h19) (kv0 (.tuple []) h19)).bind (fin0 (fun t21 h22 => (apick t13 (.bool true) t21).bind fun t23 => acond t23 ((afieldAt 3 t8).bind fun t24 => (aload false 1 h22 t24).bind fun t25 => some (.ret, [t25], h22)) (some (.ret, [(.str [])], h22))) (fun _ _ => none))) (fun _ _ => none))) (fun _ _ => none))).bind fun r26 => (fun x2v27 h28 => Ex.endF r26.1 (finR (List.length h0) x2v27 h28)) (List.getD r26.2.1 0 .junk) r26.2.2
theorem m184_eq (K : CallO) (a0 : AVal) (h0 : Heap) : evB Tryd.prog ann lpW K 184 [a0] h0 = m184 (callP ann K) a0 h0 := by kernel_rfl

/- (*hauberk/hauberkref12.Reader).wrong -/
noncomputable def m185 (K : CallO) (a0 a1 : AVal) (h0 : Heap) : Option (Res × Heap) :=
  ((anilCheck a0).bind fun t0 => (afieldAt 3 t0).bind fun t1 => (afieldAt 0 t1).bind fun t2 => (aload false 1 h0 t2).bind fun t3 => (abin .eql t3 (.int .i64 0)).bind fun t4 => (acond t4 ((anilCheck a0).bind fun t5 => (afieldAt 0 t5).bind fun t6 => (aload false 1 h0 t6).bind fun t7 => (anilCheck a0).bind fun t8 => (afieldAt 1 t8).bind fun t9 => (aload false 1 h0 t9).bind fun t10 => (aindexSl 4 t7 t10).bind fun t11 => (afieldAt 1 t11).bind fun t12 => (aload false 1 h0 t12).bind fun t13 => (abuild [(.int .i64 0), (.int .i64 0)] [(0, 1), (1, 1)] [(0, a1), (1, t13)]).bind fun t14 => (anilCheck a0).bind fun t15 => (afieldAt 3 t15).bind fun t16 => (astore 2 h0 t16 t14).bind fun h17 => some (.normal, [], h17)) (some (.normal, [], h0))).bind fun r18 => (fun h19 => Ex.nrm r18.1 (some (.normal, [], h19)))  r18.2.2).bind fun r20 => (fun h21 => Ex.endF r20.1 (finR (List.length h0) (.tuple []) h21))  r20.2.2
theorem m185_eq (K : CallO) (a0 a1 : AVal) (h0 : Heap) : evB Tryd.prog ann lpW K 185 [a0, a1] h0 = m185 (callP ann K) a0 a1 h0 := by kernel_rfl

/- (*hauberk/hauberkref12.Reader).nest -/
noncomputable def m186 (K : CallO) (a0 a1 : AVal) (h0 : Heap) : Option (Res × Heap) :=
  (bindRes (K 149 [(AVal.untok a0), (AVal.untok a1)] h0) (fun t0 h1 => (guardSel true t0 (kv0 a0 h1) (kv0 (.tuple []) h1)).bind (fin0 (fun t2 h3 => (guardSel true t0 ((anilCheck t2).bind fun t4 => kv0 t4 h3) (kv0 (.tuple []) h3)).bind (fin0 (fun t5 h6 => (guardSel true t0 ((afieldAt 2 t5).bind fun t7 => kv0 t7 h6) (kv0 (.tuple []) h6)).bind (fin0 (fun t8 h9 => (guardSel true t0 ((aload false 1 h9 t8).bind fun t10 => kv0 t10 h9) (kv0 (.tuple []) h9)).bind (fin0 (fun t11 h12 => (guardSel true t0 ((abin .geq t11 (.int .i64 64)).bind fun t13 => kv0 t13 h12) (kv0 (.tuple []) h12)).bind (fin0 (fun t14 h15 => (apick t0 t14 (.bool false)).bind fun t16 => (acond t16 (bindRes (K 185 [(AVal.untok a0), (AVal.untok (.int .i64 11))] h15) (fun t17 h18 => some (.normal, [a0, a1], h18)) (fun _ _ => none)) (some (.normal, [a0, a1], h15))).bind fun r19 => (fun x0v20 x1v21 h22 => Ex.nrm r19.1 (bindRes (K 147 [(AVal.untok x0v20), (AVal.untok x1v21)] h22) (fun t23 h24 => (anilCheck x0v20).bind fun t25 => (afieldAt 2 t25).bind fun t26 => (aload false 1 h24 t26).bind fun t27 => (abin .add t27 (.int .i64 1)).bind fun t28 => (anilCheck x0v20).bind fun t29 => (afieldAt 2 t29).bind fun t30 => (astore 1 h24 t30 t28).bind fun h31 => some (.normal, [], h31)) (fun _ _ => none))) (List.getD r19.2.1 0 .junk) (List.getD r19.2.1 1 .junk) r19.2.2) (fun _ _ => none))) (fun _ _ => none))) (fun _ _ => none))) (fun _ _ => none))) (fun _ _ => none))) (fun _ _ => none)).bind fun r32 => (fun h33 => Ex.endF r32.1 (finR (List.length h0) (.tuple []) h33))  r32.2.2
theorem m186_eq (K : CallO) (a0 a1 : AVal) (h0 : Heap) : evB Tryd.prog ann lpW K 186 [a0, a1] h0 = m186 (callP ann K) a0 a1 h0 := by kernel_rfl

/- (*hauberk/hauberkref12.Reader).stmt -/
noncomputable def m187 (K : CallO) (a0 : AVal) (h0 : Heap) : Option (Res × Heap) :=
  (bindVH (anew 11 h0 (.agg [(.int .i64 0), (.int .i64 0), (.int .i64 0), (.str []), (.int .i64 0), (.int .i64 0), (.int .i64 0), (.slice [] .nil), (.slice [] .nil), (.slice [] .nil), (.bool false)])) fun t0 h1 => (anilCheck a0).bind fun t2 => (afieldAt 0 t2).bind fun t3 => (aload false 1 h1 t3).bind fun t4 => (anilCheck a0).bind fun t5 => (afieldAt 1 t5).bind fun t6 => (aload false 1 h1 t6).bind fun t7 => (aindexSl 4 t4 t7).bind fun t8 => (afieldAt 1 t8).bind fun t9 => (aload false 1 h1 t9).bind fun t10 => (abuild [(.int .i64 0), (.int .i64 0), (.int .i64 0), (.str []), (.int .i64 0), (.int .i64 0), (.int .i64 0), (.slice [] .nil), (.slice [] .nil), (.slice [] .nil), (.bool false)] [(0, 1), (1, 1), (2, 1), (3, 1), (4, 3), (7, 1), (8, 1), (9, 1), (10, 1)] [(1, t10)]).bind fun t11 => bindVH (anew 11 (hide (lockIds [0, 1, 2] [t3, t6, t9]) h1) (.agg [(.int .i64 0), (.int .i64 0), (.int .i64 0), (.str []), (.int .i64 0), (.int .i64 0), (.int .i64 0), (.slice [] .nil), (.slice [] .nil), (.slice [] .nil), (.bool false)])) fun t12 h13 => (astore 11 (unhide (lockIds [0, 1, 2] [t3, t6, t9]) h1 h13) t12 t11).bind fun h14 => (bindRes (K 151 [(AVal.untok a0), (AVal.untok (.str [108, 101, 116]))] h14) (fun t15 h16 => (acond t15 ((afieldAt 0 t12).bind fun t17 => (astore 1 h16 t17 (.int .i64 1)).bind fun h18 => bindRes (K 148 [(AVal.untok a0), (AVal.untok (.int .i64 1))] h18) (fun t19 h20 => (afield false 1 3 t19).bind fun t21 => (afieldAt 3 t12).bind fun t22 => (astore 1 h20 t22 t21).bind fun h23 => bindRes (K 147 [(AVal.untok a0), (AVal.untok (.str [61]))] h23) (fun t24 h25 => bindRes (K 232 [a0, (.slice [] .nil)] h25) (fun t26 h27 => (afieldAt 7 t12).bind fun t28 => (astore 1 h27 t28 t26).bind fun h29 => some (.normal, [t0, t12], h29)) (fun _ _ => none)) (fun _ _ => none)) (fun _ _ => none)) (bindRes (K 151 [(AVal.untok a0), (AVal.untok (.str [118, 97, 114]))] h16) (fun t30 h31 => (acond t30 ((afieldAt 0 t12).bind fun t32 => (astore 1 h31 t32 (.int .i64 2)).bind fun h33 => bindRes (K 152 [(AVal.untok a0)] h33) (fun t34 h35 => bindRes (K 148 [(AVal.untok a0), (AVal.untok (.int .i64 1))] h35) (fun t36 h37 => (afield false 1 3 t36).bind fun t38 => (afieldAt 3 t12).bind fun t39 => (astore 1 h37 t39 t38).bind fun h40 => bindRes (K 147 [(AVal.untok a0), (AVal.untok (.str [58]))] h40) (fun t41 h42 => bindRes (K 153 [(AVal.untok a0), (AVal.untok (.bool false)), (AVal.untok t34)] h42) (fun t43 h44 => (afieldAt 4 t12).bind fun t45 => (astore 3 h44 t45 t43).bind fun h46 => bindRes (K 147 [(AVal.untok a0), (AVal.untok (.str [59]))] h46) (fun t47 h48 => some (.normal, [t0, t12], h48)) (fun _ _ => none)) (fun _ _ => none)) (fun _ _ => none)) (fun _ _ => none)) (fun _ _ => none)) (bindRes (K 151 [(AVal.untok a0), (AVal.untok (.str [105, 102]))] h31) (fun t49 h50 => (acond t49 ((afieldAt 0 t12).bind fun t51 => (astore 1 h50 t51 (.int .i64 5)).bind fun h52 => (afieldAt 7 t12).bind fun t53 => (aload false 1 h52 t53).bind fun t54 => bindRes (K 233 [(AVal.untok a0), (AVal.untok (.int .i64 0))] (hide (lockIds [0] [t53]) h52)) (fun t55 h56 => bindVH (abuildSlice 1 5 [(.int .i64 0), (.int .i64 0), (.int .i64 0), (.str []), (.slice [] .nil)] [(0, t55)] (hide (lockIds [0] [t53]) (unhide (lockIds [0] [t53]) h52 h56))) fun t57 h58 => bindVH (aappend 5 64 (unhide (lockIds [0] [t53]) (unhide (lockIds [0] [t53]) h52 h56) h58) t54 t57) fun t59 h60 => (afieldAt 7 t12).bind fun t61 => (astore 1 h60 t61 t59).bind fun h62 => bindRes (K 154 [(AVal.untok a0)] h62) (fun t63 h64 => (afieldAt 8 t12).bind fun t65 => (astore 1 h64 t65 t63).bind fun h66 => bindRes (K 151 [(AVal.untok a0), (AVal.untok (.str [101, 108, 115, 101]))] h66) (fun t67 h68 => (acond t67 ((afieldAt 10 t12).bind fun t69 => (astore 1 h68 t69 (.bool true)).bind fun h70 => bindRes (K 154 [(AVal.untok a0)] h70) (fun t71 h72 => (afieldAt 9 t12).bind fun t73 => (astore 1 h72 t73 t71).bind fun h74 => some (.normal, [t0, t12], h74)) (fun _ _ => none)) (some (.normal, [t0, t12], h68))).bind fun r75 => (fun x2v76 x3v77 h78 => Ex.nrm r75.1 (some (.normal, [x2v76, x3v77], h78))) (List.getD r75.2.1 0 .junk) (List.getD r75.2.1 1 .junk) r75.2.2) (fun _ _ => none)) (fun _ _ => none)) (fun _ _ => none)) (bindRes (K 151 [(AVal.untok a0), (AVal.untok (.str [102, 111, 114]))] h50) (fun t79 h80 => (acond t79 ((afieldAt 0 t12).bind fun t81 => (astore 1 h80 t81 (.int .i64 6)).bind fun h82 => bindRes (K 148 [(AVal.untok a0), (AVal.untok (.int .i64 1))] h82) (fun t83 h84 => (afield false 1 3 t83).bind fun t85 => (afieldAt 3 t12).bind fun t86 => (astore 1 h84 t86 t85).bind fun h87 => bindRes (K 147 [(AVal.untok a0), (AVal.untok (.str [60]))] h87) (fun t88 h89 => (afieldAt 7 t12).bind fun t90 => (aload false 1 h89 t90).bind fun t91 => bindRes (K 233 [(AVal.untok a0), (AVal.untok (.int .i64 0))] (hide (lockIds [0] [t90]) h89)) (fun t92 h93 => bindVH (abuildSlice 1 5 [(.int .i64 0), (.int .i64 0), (.int .i64 0), (.str []), (.slice [] .nil)] [(0, t92)] (hide (lockIds [0] [t90]) (unhide (lockIds [0] [t90]) h89 h93))) fun t94 h95 => bindVH (aappend 5 64 (unhide (lockIds [0] [t90]) (unhide (lockIds [0] [t90]) h89 h93) h95) t91 t94) fun t96 h97 => (afieldAt 7 t12).bind fun t98 => (astore 1 h97 t98 t96).bind fun h99 => bindRes (K 147 [(AVal.untok a0), (AVal.untok (.str [109, 97, 120]))] h99) (fun t100 h101 => bindRes (K 148 [(AVal.untok a0), (AVal.untok (.int .i64 2))] h101) (fun t102 h103 => (afield false 1 2 t102).bind fun t104 => (afieldAt 2 t12).bind fun t105 => (astore 1 h103 t105 t104).bind fun h106 => bindRes (K 154 [(AVal.untok a0)] h106) (fun t107 h108 => (afieldAt 8 t12).bind fun t109 => (astore 1 h108 t109 t107).bind fun h110 => some (.normal, [t0, t12], h110)) (fun _ _ => none)) (fun _ _ => none)) (fun _ _ => none)) (fun _ _ => none)) (fun _ _ => none)) (fun _ _ => none)) (bindRes (K 151 [(AVal.untok a0), (AVal.untok (.str [114, 101, 116, 117, 114, 110]))] h80) (fun t111 h112 => acond t111 ((afieldAt 0 t12).bind fun t113 => (astore 1 h112 t113 (.int .i64 8)).bind fun h114 => bindRes (K 232 [a0, (.slice [] .nil)] h114) (fun t115 h116 => (afieldAt 7 t12).bind fun t117 => (astore 1 h116 t117 t115).bind fun h118 => some (.normal, [t0, t12], h118)) (fun _ _ => none)) ((aload true 11 h112 t12).bind fun t119 => bindRes (K 234 [a0, t119] h112) (fun t120 h121 => (astore 11 h121 t0 t120).bind fun h122 => some (.ret, [t0, t12], h122)) (fun _ _ => none))) (fun _ _ => none))).bind fun r123 => (fun x2v124 x3v125 h126 => Ex.thenDo r123.1 (some (.normal, [x2v124, x3v125], h126)) (fun e127 => some (e127, [x2v124, x3v125], h126))) (List.getD r123.2.1 0 .junk) (List.getD r123.2.1 1 .junk) r123.2.2) (fun _ _ => none))).bind fun r128 => (fun x2v129 x3v130 h131 => Ex.thenDo r128.1 (some (.normal, [x2v129, x3v130], h131)) (fun e132 => some (e132, [x2v129, x3v130], h131))) (List.getD r128.2.1 0 .junk) (List.getD r128.2.1 1 .junk) r128.2.2) (fun _ _ => none))).bind fun r133 => (fun x2v134 x3v135 h136 => Ex.thenDo r133.1 (some (.normal, [x2v134, x3v135], h136)) (fun e137 => some (e137, [x2v134, x3v135], h136))) (List.getD r133.2.1 0 .junk) (List.getD r133.2.1 1 .junk) r133.2.2) (fun _ _ => none))).bind fun r138 => (fun x2v139 x3v140 h141 => Ex.thenDo r138.1 (some (.normal, [x2v139, x3v140], h141)) (fun e142 => some (e142, [x2v139, x3v140], h141))) (List.getD r138.2.1 0 .junk) (List.getD r138.2.1 1 .junk) r138.2.2) (fun _ _ => none)).bind fun r143 => (fun x2v144 x3v145 h146 => Ex.inBlock 0 r143.1 ((aload true 11 h146 x3v145).bind fun t148 => (astore 11 h146 x2v144 t148).bind fun h149 => some (.ret, [x2v144], h149)) (fun e147 => some (e147, [x2v144], h146))) (List.getD r143.2.1 0 .junk) (List.getD r143.2.1 1 .junk) r143.2.2).bind fun r150 => (fun x2v151 h152 => Ex.endF r150.1 ((aload true 11 h152 x2v151).bind fun t153 => finR (List.length h0) t153 h152)) (List.getD r150.2.1 0 .junk) r150.2.2
theorem m187_eq (K : CallO) (a0 : AVal) (h0 : Heap) : evB Tryd.prog ann lpW K 187 [a0] h0 = m187 (callP ann K) a0 h0 := by kernel_rfl

/- (*hauberk/hauberkref12.Reader).unnest -/
noncomputable def m188 (K : CallO) (a0 a1 : AVal) (h0 : Heap) : Option (Res × Heap) :=
  (bindRes (K 147 [(AVal.untok a0), (AVal.untok a1)] h0) (fun t0 h1 => (anilCheck a0).bind fun t2 => (afieldAt 2 t2).bind fun t3 => (aload false 1 h1 t3).bind fun t4 => (abin .sub t4 (.int .i64 1)).bind fun t5 => (anilCheck a0).bind fun t6 => (afieldAt 2 t6).bind fun t7 => (astore 1 h1 t7 t5).bind fun h8 => some (.normal, [], h8)) (fun _ _ => none)).bind fun r9 => (fun h10 => Ex.endF r9.1 (finR (List.length h0) (.tuple []) h10))  r9.2.2
theorem m188_eq (K : CallO) (a0 a1 : AVal) (h0 : Heap) : evB Tryd.prog ann lpW K 188 [a0, a1] h0 = m188 (callP ann K) a0 a1 h0 := by kernel_rfl

/- (*hauberk/hauberkref12.Reader).value -/
noncomputable def m232 (K : CallO) (a0 a1 : AVal) (h0 : Heap) : Option (Res × Heap) :=
  ((fun (t1 : AVal) (h0 : Heap) => bindRes (K 233 [(AVal.untok a0), (AVal.untok (.int .i64 0))] h0) (fun t2 h3 => bindVH (anew 5 h3 (.agg [(.int .i64 0), (.int .i64 0), (.int .i64 0), (.str []), (.slice [] .nil)])) fun t4 h5 => (astore 5 h5 t4 t2).bind fun h6 => bindRes (K 147 [(AVal.untok a0), (AVal.untok (.str [59]))] h6) (fun t7 h8 => (aload true 5 h8 t4).bind fun t9 => bindVH (abuildSlice 1 5 [(.int .i64 0), (.int .i64 0), (.int .i64 0), (.str []), (.slice [] .nil)] [(0, t9)] h8) fun t10 h11 => bindVH (aappend 5 64 h11 a1 t10) fun t12 h13 => some (.ret, [t12], h13)) (fun _ _ => none)) (fun _ _ => none)) (.slice [] (.own (List.length h0))) (h0 ++ [.front 0 0])).bind fun r14 => (fun x4v15 h16 => Ex.endF r14.1 (finG (List.length h0) x4v15 h16)) (List.getD r14.2.1 0 .junk) r14.2.2
theorem m232_eq (K : CallO) (a0 a1 : AVal) (h0 : Heap) : evB Tryd.prog ann lpW K 232 [a0, a1] h0 = m232 (callP ann K) a0 a1 h0 := by kernel_rfl

/- (*hauberk/hauberkref12.Reader).Expr -/
noncomputable def m233_l0 (K : CallO) (m : Nat) (s : List AVal × Heap) : Option R :=
  (fun x0v7 x1v8 x4v9 x5v10 x6v11 x7v12 h13 => (anilCheck x0v7).bind fun t14 => (afieldAt 3 t14).bind fun t15 => (afieldAt 0 t15).bind fun t16 => (aload false 1 h13 t16).bind fun t17 => (abin .eql t17 (.int .i64 0)).bind fun t18 => acond t18 (bindRes (K 184 [(AVal.untok x0v7)] h13) (fun t19 h20 => bindRes (K 253 [(AVal.untok t19)] h20) (fun t21 h22 => (aextract 0 t21).bind fun t23 => (aextract 1 t21).bind fun t24 => (abin .leq t23 x1v8).bind fun t25 => (guardSel false t25 (kv0 t23 h22) (kv0 (.tuple []) h22)).bind (fin0 (fun t26 h27 => (guardSel false t25 (kv0 x7v12 h27) (kv0 (.tuple []) h27)).bind (fin0 (fun t28 h29 => (guardSel false t25 ((abin .gtr t26 t28).bind fun t30 => kv0 t30 h29) (kv0 (.tuple []) h29)).bind (fin0 (fun t31 h32 => (apick t25 (.bool true) t31).bind fun t33 => (guardSel false t33 (kv0 t23 h32) (kv0 (.tuple []) h32)).bind (fin0 (fun t34 h35 => (guardSel false t33 ((abin .eql t34 (.int .i64 1)).bind fun t36 => kv0 t36 h35) (kv0 (.tuple []) h35)).bind (fin0 (fun t37 h38 => (guardSel false t33 (kv0 t37 h38) (kv0 (.tuple []) h38)).bind (fin0 (fun t39 h40 => (guardSel true t39 (kv0 x6v11 h40) (kv0 (.tuple []) h40)).bind (fin0 (fun t41 h42 => (guardSel false t33 ((apick t39 t41 (.bool false)).bind fun t43 => kv0 t43 h42) (kv0 (.tuple []) h42)).bind (fin0 (fun t44 h45 => (apick t33 (.bool true) t44).bind fun t46 => acond t46 ((aload true 5 h45 x5v10).bind fun t47 => (astore 5 h45 x4v9 t47).bind fun h48 => endR m .ret [x0v7, x1v8, x4v9, x5v10, x6v11, x7v12] h48) ((guardSel false x6v11 (kv0 t23 h45) (kv0 (.tuple []) h45)).bind (fin0 (fun t49 h50 => (guardSel false x6v11 ((abin .eql t49 (.int .i64 1)).bind fun t51 => kv0 t51 h50) (kv0 (.tuple []) h50)).bind (fin0 (fun t52 h53 => (apick x6v11 (.bool true) t52).bind fun t54 => (anilCheck x0v7).bind fun t55 => (afieldAt 0 t55).bind fun t56 => (aload false 1 h53 t56).bind fun t57 => (anilCheck x0v7).bind fun t58 => (afieldAt 1 t58).bind fun t59 => (aload false 1 h53 t59).bind fun t60 => (aindexSl 4 t57 t60).bind fun t61 => (afieldAt 1 t61).bind fun t62 => (aload false 1 h53 t62).bind fun t63 => (abuild [(.int .i64 0), (.int .i64 0), (.int .i64 0), (.str []), (.slice [] .nil)] [(0, 1), (1, 1), (2, 1), (3, 1), (4, 1)] [(0, t24), (1, t63)]).bind fun t64 => bindVH (anew 5 (hide (lockIds [0, 1, 2] [t56, t59, t62]) h53) (.agg [(.int .i64 0), (.int .i64 0), (.int .i64 0), (.str []), (.slice [] .nil)])) fun t65 h66 => (astore 5 (unhide (lockIds [0, 1, 2] [t56, t59, t62]) h53 h66) t65 t64).bind fun h67 => (anilCheck x0v7).bind fun t68 => (afieldAt 1 t68).bind fun t69 => (aload false 1 h67 t69).bind fun t70 => (abin .add t70 (.int .i64 1)).bind fun t71 => (anilCheck x0v7).bind fun t72 => (afieldAt 1 t72).bind fun t73 => (astore 1 h67 t73 t71).bind fun h74 => (afieldAt 4 t65).bind fun t75 => (aload false 1 h74 t75).bind fun t76 => (aload true 5 h74 x5v10).bind fun t77 => bindVH (abuildSlice 1 5 [(.int .i64 0), (.int .i64 0), (.int .i64 0), (.str []), (.slice [] .nil)] [(0, t77)] h74) fun t78 h79 => bindVH (aappend 5 64 h79 t76 t78) fun t80 h81 => (afieldAt 4 t65).bind fun t82 => (astore 1 h81 t82 t80).bind fun h83 => (abin .eql t23 (.int .i64 5)).bind fun t84 => (acond t84 (bindRes (K 148 [(AVal.untok x0v7), (AVal.untok (.int .i64 2))] h83) (fun t85 h86 => (afield false 1 2 t85).bind fun t87 => (afieldAt 2 t65).bind fun t88 => (astore 1 h86 t88 t87).bind fun h89 => some (.normal, [x0v7, x1v8, x4v9, x5v10, t54, t23, t65], h89)) (fun _ _ => none)) ((afieldAt 4 t65).bind fun t90 => (aload false 1 h83 t90).bind fun t91 => bindRes (K 233 [(AVal.untok x0v7), (AVal.untok t23)] (hide (lockIds [0] [t90]) h83)) (fun t92 h93 => bindVH (abuildSlice 1 5 [(.int .i64 0), (.int .i64 0), (.int .i64 0), (.str []), (.slice [] .nil)] [(0, t92)] (hide (lockIds [0] [t90]) (unhide (lockIds [0] [t90]) h83 h93))) fun t94 h95 => bindVH (aappend 5 64 (unhide (lockIds [0] [t90]) (unhide (lockIds [0] [t90]) h83 h93) h95) t91 t94) fun t96 h97 => (afieldAt 4 t65).bind fun t98 => (astore 1 h97 t98 t96).bind fun h99 => some (.normal, [x0v7, x1v8, x4v9, x5v10, t54, t23, t65], h99)) (fun _ _ => none))).bind fun r100 => (fun x0v101 x1v102 x4v103 x5v104 x6v105 x7v106 x10v107 h108 => Ex.nrm r100.1 ((aload true 5 h108 x10v107).bind fun t109 => (astore 5 h108 x5v104 t109).bind fun h110 => endR m .normal [x0v101, x1v102, x4v103, x5v104, x6v105, x7v106] h110)) (List.getD r100.2.1 0 .junk) (List.getD r100.2.1 1 .junk) (List.getD r100.2.1 2 .junk) (List.getD r100.2.1 3 .junk) (List.getD r100.2.1 4 .junk) (List.getD r100.2.1 5 .junk) (List.getD r100.2.1 6 .junk) r100.2.2) (fun _ _ => none))) (fun _ _ => none)))) (fun _ _ => none))) (fun _ _ => none))) (fun _ _ => none))) (fun _ _ => none))) (fun _ _ => none))) (fun _ _ => none))) (fun _ _ => none))) (fun _ _ => none))) (fun _ _ => none)) (fun _ _ => none)) (endR m (.exit 0) [x0v7, x1v8, x4v9, x5v10, x6v11, x7v12] h13)) (List.getD s.1 0 .junk) (List.getD s.1 1 .junk) (List.getD s.1 2 .junk) (List.getD s.1 3 .junk) (List.getD s.1 4 .junk) (List.getD s.1 5 .junk) s.2
noncomputable def m233 (K : CallO) (a0 a1 : AVal) (h0 : Heap) : Option (Res × Heap) :=
  (bindVH (anew 5 h0 (.agg [(.int .i64 0), (.int .i64 0), (.int .i64 0), (.str []), (.slice [] .nil)])) fun t0 h1 => bindRes (K 252 [(AVal.untok a0)] h1) (fun t2 h3 => bindVH (anew 5 h3 (.agg [(.int .i64 0), (.int .i64 0), (.int .i64 0), (.str []), (.slice [] .nil)])) fun t4 h5 => (astore 5 h5 t4 t2).bind fun h6 => (lpW (m233_l0 K (List.length h6)) ([a0, a1, t0, t4, (.bool false), (.int .i64 7)], h6)).bind fun r111 => (fun x0v113 x1v114 x4v115 x5v116 x6v117 x7v118 h119 => Ex.thenDo r111.1 none (fun e112 => Ex.inBlock 0 e112 ((aload true 5 h119 x5v116).bind fun t121 => (astore 5 h119 x4v115 t121).bind fun h122 => some (.ret, [x4v115], h122)) (fun e120 => some (e120, [x4v115], h119)))) (List.getD r111.2.1 0 .junk) (List.getD r111.2.1 1 .junk) (List.getD r111.2.1 2 .junk) (List.getD r111.2.1 3 .junk) (List.getD r111.2.1 4 .junk) (List.getD r111.2.1 5 .junk) r111.2.2) (fun _ _ => none)).bind fun r123 => (fun x4v124 h125 => Ex.endF r123.1 ((aload true 5 h125 x4v124).bind fun t126 => finR (List.length h0) t126 h125)) (List.getD r123.2.1 0 .junk) r123.2.2
theorem m233_eq (K : CallO) (a0 a1 : AVal) (h0 : Heap) : evB Tryd.prog ann lpW K 233 [a0, a1] h0 = m233 (callP ann K) a0 a1 h0 := by kernel_rfl

/- (*hauberk/hauberkref12.Reader).named -/
noncomputable def m234 (K : CallO) (a0 a1 : AVal) (h0 : Heap) : Option (Res × Heap) :=
  (bindVH (anew 11 h0 a1) fun t0 h1 => bindVH (anew 11 h1 (.agg [(.int .i64 0), (.int .i64 0), (.int .i64 0), (.str []), (.int .i64 0), (.int .i64 0), (.int .i64 0), (.slice [] .nil), (.slice [] .nil), (.slice [] .nil), (.bool false)])) fun t2 h3 => bindRes (K 148 [(AVal.untok a0), (AVal.untok (.int .i64 1))] h3) (fun t4 h5 => bindVH (anew 4 h5 (.agg [(.int .i64 0), (.int .i64 0), (.int .i64 0), (.str [])])) fun t6 h7 => (astore 4 h7 t6 t4).bind fun h8 => bindRes (K 149 [(AVal.untok a0), (AVal.untok (.str [40]))] h8) (fun t9 h10 => (acond t9 ((afieldAt 0 t0).bind fun t11 => (astore 1 h10 t11 (.int .i64 7)).bind fun h12 => (afieldAt 7 t0).bind fun t13 => (aload false 1 h12 t13).bind fun t14 => (aload true 4 h12 t6).bind fun t15 => bindRes (K 254 [(AVal.untok a0), (AVal.untok t15)] (hide (lockIds [0] [t13]) h12)) (fun t16 h17 => bindVH (abuildSlice 1 5 [(.int .i64 0), (.int .i64 0), (.int .i64 0), (.str []), (.slice [] .nil)] [(0, t16)] (hide (lockIds [0] [t13]) (unhide (lockIds [0] [t13]) h12 h17))) fun t18 h19 => bindVH (aappend 5 64 (unhide (lockIds [0] [t13]) (unhide (lockIds [0] [t13]) h12 h17) h19) t14 t18) fun t20 h21 => (afieldAt 7 t0).bind fun t22 => (astore 1 h21 t22 t20).bind fun h23 => bindRes (K 147 [(AVal.untok a0), (AVal.untok (.str [59]))] h23) (fun t24 h25 => some (.normal, [t0, t2], h25)) (fun _ _ => none)) (fun _ _ => none)) (bindRes (K 149 [(AVal.untok a0), (AVal.untok (.str [91]))] h10) (fun t26 h27 => (acond t26 ((afieldAt 0 t0).bind fun t28 => (astore 1 h27 t28 (.int .i64 4)).bind fun h29 => (afieldAt 3 t6).bind fun t30 => (aload false 1 h29 t30).bind fun t31 => (afieldAt 3 t0).bind fun t32 => (astore 1 h29 t32 t31).bind fun h33 => (aload true 4 h33 t6).bind fun t34 => bindRes (K 254 [(AVal.untok a0), (AVal.untok t34)] h33) (fun t35 h36 => bindVH (anew 5 h36 (.agg [(.int .i64 0), (.int .i64 0), (.int .i64 0), (.str []), (.slice [] .nil)])) fun t37 h38 => (astore 5 h38 t37 t35).bind fun h39 => bindRes (K 147 [(AVal.untok a0), (AVal.untok (.str [61]))] h39) (fun t40 h41 => (afieldAt 4 t37).bind fun t42 => (aload false 1 h41 t42).bind fun t43 => bindRes (K 232 [a0, t43] h41) (fun t44 h45 => (afieldAt 7 t0).bind fun t46 => (astore 1 h45 t46 t44).bind fun h47 => some (.normal, [t0, t2], h47)) (fun _ _ => none)) (fun _ _ => none)) (fun _ _ => none)) ((afieldAt 0 t0).bind fun t48 => (astore 1 h27 t48 (.int .i64 3)).bind fun h49 => (afieldAt 3 t6).bind fun t50 => (aload false 1 h49 t50).bind fun t51 => (afieldAt 3 t0).bind fun t52 => (astore 1 h49 t52 t51).bind fun h53 => bindRes (K 147 [(AVal.untok a0), (AVal.untok (.str [61]))] h53) (fun t54 h55 => bindRes (K 232 [a0, (.slice [] .nil)] h55) (fun t56 h57 => (afieldAt 7 t0).bind fun t58 => (astore 1 h57 t58 t56).bind fun h59 => some (.normal, [t0, t2], h59)) (fun _ _ => none)) (fun _ _ => none))).bind fun r60 => (fun x3v61 x4v62 h63 => Ex.nrm r60.1 (some (.normal, [x3v61, x4v62], h63))) (List.getD r60.2.1 0 .junk) (List.getD r60.2.1 1 .junk) r60.2.2) (fun _ _ => none))).bind fun r64 => (fun x3v65 x4v66 h67 => Ex.nrm r64.1 ((aload true 11 h67 x3v65).bind fun t68 => (astore 11 h67 x4v66 t68).bind fun h69 => some (.ret, [x4v66], h69))) (List.getD r64.2.1 0 .junk) (List.getD r64.2.1 1 .junk) r64.2.2) (fun _ _ => none)) (fun _ _ => none)).bind fun r70 => (fun x4v71 h72 => Ex.endF r70.1 ((aload true 11 h72 x4v71).bind fun t73 => finG (List.length h0) t73 h72)) (List.getD r70.2.1 0 .junk) r70.2.2
theorem m234_eq (K : CallO) (a0 a1 : AVal) (h0 : Heap) : evB Tryd.prog ann lpW K 234 [a0, a1] h0 = m234 (callP ann K) a0 a1 h0 := by kernel_rfl

/- (*hauberk/hauberkref12.Reader).unary -/
noncomputable def m252 (K : CallO) (a0 : AVal) (h0 : Heap) : Option (Res × Heap) :=
  (bindVH (anew 5 h0 (.agg [(.int .i64 0), (.int .i64 0), (.int .i64 0), (.str []), (.slice [] .nil)])) fun t0 h1 => (anilCheck a0).bind fun t2 => (afieldAt 3 t2).bind fun t3 => (afieldAt 0 t3).bind fun t4 => (aload false 1 h1 t4).bind fun t5 => (abin .neq t5 (.int .i64 0)).bind fun t6 => acond t6 ((abuild [(.int .i64 0), (.int .i64 0), (.int .i64 0), (.str []), (.slice [] .nil)] [(0, 1), (1, 1), (2, 1), (3, 1), (4, 1)] []).bind fun t7 => (astore 5 h1 t0 t7).bind fun h8 => some (.ret, [t0], h8)) ((anilCheck a0).bind fun t9 => (afieldAt 0 t9).bind fun t10 => (aload false 1 h1 t10).bind fun t11 => (anilCheck a0).bind fun t12 => (afieldAt 1 t12).bind fun t13 => (aload false 1 h1 t13).bind fun t14 => (aindexSl 4 t11 t14).bind fun t15 => (afieldAt 1 t15).bind fun t16 => (aload false 1 h1 t16).bind fun t17 => (abuild [(.int .i64 0), (.int .i64 0), (.int .i64 0), (.str []), (.slice [] .nil)] [(0, 1), (1, 1), (2, 1), (3, 1), (4, 1)] [(1, t17)]).bind fun t18 => bindVH (anew 5 (hide (lockIds [0, 1, 2] [t10, t13, t16]) h1) (.agg [(.int .i64 0), (.int .i64 0), (.int .i64 0), (.str []), (.slice [] .nil)])) fun t19 h20 => (astore 5 (unhide (lockIds [0, 1, 2] [t10, t13, t16]) h1 h20) t19 t18).bind fun h21 => bindRes (K 184 [(AVal.untok a0)] h21) (fun t22 h23 => ((abin .eql t22 (.str [126])).bind fun t24 => (acond t24 ((afieldAt 0 t19).bind fun t25 => (astore 1 h23 t25 (.int .i64 5)).bind fun h26 => some (.normal, [a0, t0, t19, t22], h26)) ((abin .eql t22 (.str [45])).bind fun t27 => (acond t27 ((afieldAt 0 t19).bind fun t28 => (astore 1 h23 t28 (.int .i64 6)).bind fun h29 => some (.normal, [a0, t0, t19, t22], h29)) ((abin .eql t22 (.str [33])).bind fun t30 => acond t30 ((afieldAt 0 t19).bind fun t31 => (astore 1 h23 t31 (.int .i64 7)).bind fun h32 => some (.normal, [a0, t0, t19, t22], h32)) ((abin .eql t22 (.str [40])).bind fun t33 => acond t33 (bindRes (K 186 [(AVal.untok a0), (AVal.untok (.str [40]))] h23) (fun t34 h35 => bindRes (K 233 [(AVal.untok a0), (AVal.untok (.int .i64 0))] h35) (fun t36 h37 => bindVH (anew 5 h37 (.agg [(.int .i64 0), (.int .i64 0), (.int .i64 0), (.str []), (.slice [] .nil)])) fun t38 h39 => (astore 5 h39 t38 t36).bind fun h40 => bindRes (K 188 [(AVal.untok a0), (AVal.untok (.str [41]))] h40) (fun t41 h42 => (aload true 5 h42 t38).bind fun t43 => (astore 5 h42 t0 t43).bind fun h44 => some (.ret, [a0, t0, t19, t22], h44)) (fun _ _ => none)) (fun _ _ => none)) (fun _ _ => none)) (bindRes (K 261 [(AVal.untok a0), (AVal.untok t22)] h23) (fun t45 h46 => (astore 5 h46 t0 t45).bind fun h47 => some (.ret, [a0, t0, t19, t22], h47)) (fun _ _ => none))))).bind fun r48 => (fun x0v49 x2v50 x3v51 x4v52 h53 => Ex.thenDo r48.1 (some (.normal, [x0v49, x2v50, x3v51, x4v52], h53)) (fun e54 => some (e54, [x0v49, x2v50, x3v51, x4v52], h53))) (List.getD r48.2.1 0 .junk) (List.getD r48.2.1 1 .junk) (List.getD r48.2.1 2 .junk) (List.getD r48.2.1 3 .junk) r48.2.2)).bind fun r55 => (fun x0v56 x2v57 x3v58 x4v59 h60 => Ex.thenDo r55.1 (some (.normal, [x0v56, x2v57, x3v58, x4v59], h60)) (fun e61 => some (e61, [x0v56, x2v57, x3v58, x4v59], h60))) (List.getD r55.2.1 0 .junk) (List.getD r55.2.1 1 .junk) (List.getD r55.2.1 2 .junk) (List.getD r55.2.1 3 .junk) r55.2.2).bind fun r62 => (fun x0v63 x2v64 x3v65 x4v66 h67 => Ex.inBlock 0 r62.1 (bindRes (K 186 [(AVal.untok x0v63), (AVal.untok x4v66)] h67) (fun t69 h70 => (afieldAt 4 x3v65).bind fun t71 => (aload false 1 h70 t71).bind fun t72 => bindRes (K 252 [(AVal.untok x0v63)] (hide (lockIds [0] [t71]) h70)) (fun t73 h74 => bindVH (abuildSlice 1 5 [(.int .i64 0), (.int .i64 0), (.int .i64 0), (.str []), (.slice [] .nil)] [(0, t73)] (hide (lockIds [0] [t71]) (unhide (lockIds [0] [t71]) h70 h74))) fun t75 h76 => bindVH (aappend 5 64 (unhide (lockIds [0] [t71]) (unhide (lockIds [0] [t71]) h70 h74) h76) t72 t75) fun t77 h78 => (afieldAt 4 x3v65).bind fun t79 => (astore 1 h78 t79 t77).bind fun h80 => (anilCheck x0v63).bind fun t81 => (afieldAt 2 t81).bind fun t82 => (aload false 1 h80 t82).bind fun t83 => (abin .sub t83 (.int .i64 1)).bind fun t84 => (anilCheck x0v63).bind fun t85 => (afieldAt 2 t85).bind fun t86 => (astore 1 h80 t86 t84).bind fun h87 => (aload true 5 h87 x3v65).bind fun t88 => (astore 5 h87 x2v64 t88).bind fun h89 => some (.ret, [x2v64], h89)) (fun _ _ => none)) (fun _ _ => none)) (fun e68 => some (e68, [x2v64], h67))) (List.getD r62.2.1 0 .junk) (List.getD r62.2.1 1 .junk) (List.getD r62.2.1 2 .junk) (List.getD r62.2.1 3 .junk) r62.2.2) (fun _ _ => none))).bind fun r90 => (fun x2v91 h92 => Ex.endF r90.1 ((aload true 5 h92 x2v91).bind fun t93 => finR (List.length h0) t93 h92)) (List.getD r90.2.1 0 .junk) r90.2.2
theorem m252_eq (K : CallO) (a0 : AVal) (h0 : Heap) : evB Tryd.prog ann lpW K 252 [a0] h0 = m252 (callP ann K) a0 h0 := by kernel_rfl

/- hauberk/hauberkref12.Tight -/
noncomputable def m253_l0 (K : CallO) (m : Nat) (s : List AVal × Heap) : Option R :=
  (fun x0v7 x2v8 x3v9 x4v10 x5v11 x6v12 x7v13 h14 => (alenSl x4v10).bind fun t15 => (abin .lss x7v13 t15).bind fun t16 => acond t16 ((aindexSl 1 x4v10 x7v13).bind fun t17 => (aload false 1 h14 t17).bind fun t18 => (abin .eql t18 x0v7).bind fun t19 => acond t19 ((aindexSl 1 x6v12 x7v13).bind fun t20 => (aload false 1 h14 t20).bind fun t21 => (aindexSl 1 x5v11 x7v13).bind fun t22 => (aload false 1 h14 t22).bind fun t23 => endR m .ret [x0v7, t21, t23, x4v10, x5v11, x6v12, x7v13] h14) ((abin .add x7v13 (.int .i64 1)).bind fun t24 => endR m .normal [x0v7, x2v8, x3v9, x4v10, x5v11, x6v12, t24] h14)) (endR m (.exit 0) [x0v7, x2v8, x3v9, x4v10, x5v11, x6v12, x7v13] h14)) (List.getD s.1 0 .junk) (List.getD s.1 1 .junk) (List.getD s.1 2 .junk) (List.getD s.1 3 .junk) (List.getD s.1 4 .junk) (List.getD s.1 5 .junk) (List.getD s.1 6 .junk) s.2
noncomputable def m253 (K : CallO) (a0 : AVal) (h0 : Heap) : Option (Res × Heap) :=
  ((abin .eql a0 (.str [])).bind fun t0 => acond t0 (some (.ret, [(.int .i64 0), (.int .i64 0)], h0)) (bindVH (abuildSlice 14 1 [(.str [])] [(0, (.str [61, 61])), (1, (.str [33, 61])), (2, (.str [60])), (3, (.str [60, 61])), (4, (.str [62])), (5, (.str [62, 61])), (6, (.str [124])), (7, (.str [94])), (8, (.str [38])), (9, (.str [60, 60])), (10, (.str [62, 62])), (11, (.str [43])), (12, (.str [45])), (13, (.str [42]))] h0) fun t1 h2 => bindVH (abuildSlice 14 1 [(.int .i64 0)] [(0, (.int .i64 17)), (1, (.int .i64 18)), (2, (.int .i64 19)), (3, (.int .i64 20)), (4, (.int .i64 21)), (5, (.int .i64 22)), (6, (.int .i64 12)), (7, (.int .i64 13)), (8, (.int .i64 11)), (9, (.int .i64 14)), (10, (.int .i64 15)), (11, (.int .i64 8)), (12, (.int .i64 9)), (13, (.int .i64 10))] h2) fun t3 h4 => bindVH (abuildSlice 14 1 [(.int .i64 0)] [(0, (.int .i64 1)), (1, (.int .i64 1)), (2, (.int .i64 1)), (3, (.int .i64 1)), (4, (.int .i64 1)), (5, (.int .i64 1)), (6, (.int .i64 2)), (7, (.int .i64 3)), (8, (.int .i64 4)), (9, (.int .i64 5)), (10, (.int .i64 5)), (11, (.int .i64 6)), (12, (.int .i64 6)), (13, (.int .i64 7))] h4) fun t5 h6 => (lpW (m253_l0 K (List.length h6)) ([a0, (.int .i64 0), (.int .i64 0), t1, t3, t5, (.int .i64 0)], h6)).bind fun r25 => (fun x0v27 x2v28 x3v29 x4v30 x5v31 x6v32 x7v33 h34 => Ex.thenDo r25.1 none (fun e26 => Ex.inBlock 0 e26 (some (.ret, [(.int .i64 0), (.int .i64 0)], h34)) (fun e35 => some (e35, [x2v28, x3v29], h34)))) (List.getD r25.2.1 0 .junk) (List.getD r25.2.1 1 .junk) (List.getD r25.2.1 2 .junk) (List.getD r25.2.1 3 .junk) (List.getD r25.2.1 4 .junk) (List.getD r25.2.1 5 .junk) (List.getD r25.2.1 6 .junk) r25.2.2)).bind fun r36 => (fun x2v37 x3v38 h39 => Ex.endF r36.1 (finR (List.length h0) (.tuple [x2v37, x3v38]) h39)) (List.getD r36.2.1 0 .junk) (List.getD r36.2.1 1 .junk) r36.2.2
theorem m253_eq (K : CallO) (a0 : AVal) (h0 : Heap) : evB Tryd.prog ann lpW K 253 [a0] h0 = m253 (callP ann K) a0 h0 := by kernel_rfl

/- (*hauberk/hauberkref12.Reader).behind -/
noncomputable def m254_l0 (K : CallO) (m : Nat) (s : List AVal × Heap) : Option R :=
  (fun x0v31 x4v32 x5v33 h34 => bindRes (K 151 [(AVal.untok x0v31), (AVal.untok (.str [44]))] h34) (fun t35 h36 => acond t35 ((afieldAt 4 x5v33).bind fun t37 => (aload false 1 h36 t37).bind fun t38 => bindRes (K 233 [(AVal.untok x0v31), (AVal.untok (.int .i64 0))] (hide (lockIds [0] [t37]) h36)) (fun t39 h40 => bindVH (abuildSlice 1 5 [(.int .i64 0), (.int .i64 0), (.int .i64 0), (.str []), (.slice [] .nil)] [(0, t39)] (hide (lockIds [0] [t37]) (unhide (lockIds [0] [t37]) h36 h40))) fun t41 h42 => bindVH (aappend 5 64 (unhide (lockIds [0] [t37]) (unhide (lockIds [0] [t37]) h36 h40) h42) t38 t41) fun t43 h44 => (afieldAt 4 x5v33).bind fun t45 => (astore 1 h44 t45 t43).bind fun h46 => endR m .normal [x0v31, x4v32, x5v33] h46) (fun _ _ => none)) (endR m (.exit 0) [x0v31, x4v32, x5v33] h36)) (fun _ _ => none)) (List.getD s.1 0 .junk) (List.getD s.1 1 .junk) (List.getD s.1 2 .junk) s.2
noncomputable def m254 (K : CallO) (a0 a1 : AVal) (h0 : Heap) : Option (Res × Heap) :=
  (bindVH (anew 4 h0 a1) fun t0 h1 => bindVH (anew 5 h1 (.agg [(.int .i64 0), (.int .i64 0), (.int .i64 0), (.str []), (.slice [] .nil)])) fun t2 h3 => (afieldAt 1 t0).bind fun t4 => (aload false 1 h3 t4).bind fun t5 => (afieldAt 3 t0).bind fun t6 => (aload false 1 h3 t6).bind fun t7 => (abuild [(.int .i64 0), (.int .i64 0), (.int .i64 0), (.str []), (.slice [] .nil)] [(0, 1), (1, 1), (2, 1), (3, 1), (4, 1)] [(0, (.int .i64 2)), (1, t5), (3, t7)]).bind fun t8 => bindVH (anew 5 h3 (.agg [(.int .i64 0), (.int .i64 0), (.int .i64 0), (.str []), (.slice [] .nil)])) fun t9 h10 => (astore 5 h10 t9 t8).bind fun h11 => bindRes (K 149 [(AVal.untok a0), (AVal.untok (.str [40]))] h11) (fun t12 h13 => (acond t12 ((afieldAt 0 t9).bind fun t14 => (astore 1 h13 t14 (.int .i64 4)).bind fun h15 => bindRes (K 186 [(AVal.untok a0), (AVal.untok (.str [40]))] h15) (fun t16 h17 => bindRes (K 149 [(AVal.untok a0), (AVal.untok (.str [41]))] h17) (fun t18 h19 => (aun .not t18).bind fun t20 => (acond t20 ((afieldAt 4 t9).bind fun t21 => (aload false 1 h19 t21).bind fun t22 => bindRes (K 233 [(AVal.untok a0), (AVal.untok (.int .i64 0))] (hide (lockIds [0] [t21]) h19)) (fun t23 h24 => bindVH (abuildSlice 1 5 [(.int .i64 0), (.int .i64 0), (.int .i64 0), (.str []), (.slice [] .nil)] [(0, t23)] (hide (lockIds [0] [t21]) (unhide (lockIds [0] [t21]) h19 h24))) fun t25 h26 => bindVH (aappend 5 64 (unhide (lockIds [0] [t21]) (unhide (lockIds [0] [t21]) h19 h24) h26) t22 t25) fun t27 h28 => (afieldAt 4 t9).bind fun t29 => (astore 1 h28 t29 t27).bind fun h30 => (lpW (m254_l0 K (List.length h30)) ([a0, t2, t9], h30)).bind fun r47 => (fun x0v49 x4v50 x5v51 h52 => Ex.thenDo r47.1 none (fun e48 => Ex.inBlock 0 e48 (some (.normal, [x0v49, x4v50, x5v51], h52)) (fun e53 => some (e53, [x0v49, x4v50, x5v51], h52)))) (List.getD r47.2.1 0 .junk) (List.getD r47.2.1 1 .junk) (List.getD r47.2.1 2 .junk) r47.2.2) (fun _ _ => none)) (some (.normal, [a0, t2, t9], h19))).bind fun r54 => (fun x0v55 x4v56 x5v57 h58 => Ex.nrm r54.1 (bindRes (K 188 [(AVal.untok x0v55), (AVal.untok (.str [41]))] h58) (fun t59 h60 => some (.normal, [x4v56, x5v57], h60)) (fun _ _ => none))) (List.getD r54.2.1 0 .junk) (List.getD r54.2.1 1 .junk) (List.getD r54.2.1 2 .junk) r54.2.2) (fun _ _ => none)) (fun _ _ => none)) (bindRes (K 149 [(AVal.untok a0), (AVal.untok (.str [91]))] h13) (fun t61 h62 => (acond t61 ((afieldAt 0 t9).bind fun t63 => (astore 1 h62 t63 (.int .i64 3)).bind fun h64 => bindRes (K 186 [(AVal.untok a0), (AVal.untok (.str [91]))] h64) (fun t65 h66 => (afieldAt 4 t9).bind fun t67 => (aload false 1 h66 t67).bind fun t68 => bindRes (K 233 [(AVal.untok a0), (AVal.untok (.int .i64 0))] (hide (lockIds [0] [t67]) h66)) (fun t69 h70 => bindVH (abuildSlice 1 5 [(.int .i64 0), (.int .i64 0), (.int .i64 0), (.str []), (.slice [] .nil)] [(0, t69)] (hide (lockIds [0] [t67]) (unhide (lockIds [0] [t67]) h66 h70))) fun t71 h72 => bindVH (aappend 5 64 (unhide (lockIds [0] [t67]) (unhide (lockIds [0] [t67]) h66 h70) h72) t68 t71) fun t73 h74 => (afieldAt 4 t9).bind fun t75 => (astore 1 h74 t75 t73).bind fun h76 => bindRes (K 188 [(AVal.untok a0), (AVal.untok (.str [93]))] h76) (fun t77 h78 => some (.normal, [t2, t9], h78)) (fun _ _ => none)) (fun _ _ => none)) (fun _ _ => none)) (some (.normal, [t2, t9], h62))).bind fun r79 => (fun x4v80 x5v81 h82 => Ex.nrm r79.1 (some (.normal, [x4v80, x5v81], h82))) (List.getD r79.2.1 0 .junk) (List.getD r79.2.1 1 .junk) r79.2.2) (fun _ _ => none))).bind fun r83 => (fun x4v84 x5v85 h86 => Ex.nrm r83.1 ((aload true 5 h86 x5v85).bind fun t87 => (astore 5 h86 x4v84 t87).bind fun h88 => some (.ret, [x4v84], h88))) (List.getD r83.2.1 0 .junk) (List.getD r83.2.1 1 .junk) r83.2.2) (fun _ _ => none)).bind fun r89 => (fun x4v90 h91 => Ex.endF r89.1 ((aload true 5 h91 x4v90).bind fun t92 => some (.ret t92, h91))) (List.getD r89.2.1 0 .junk) r89.2.2
theorem m254_eq (K : CallO) (a0 a1 : AVal) (h0 : Heap) : evB Tryd.prog ann lpW K 254 [a0, a1] h0 = m254 (callP ann K) a0 a1 h0 := by kernel_rfl

/- (*hauberk/hauberkref12.Reader).word -/
noncomputable def m261_l0 (K : CallO) (m : Nat) (s : List AVal × Heap) : Option R :=
  (fun x0v49 x1v50 x4v51 x5v52 x6v53 x7v54 x8v55 x9v56 x10v57 x11v58 h59 => (aindexSl 1 x8v55 x9v56).bind fun t60 => (aload false 1 h59 t60).bind fun t61 => (abin .lss x11v58 t61).bind fun t62 => acond t62 ((abin .gtr x11v58 (.int .i64 0)).bind fun t63 => (acond t63 (bindRes (K 147 [(AVal.untok x0v49), (AVal.untok (.str [44]))] h59) (fun t64 h65 => some (.normal, [x0v49, x1v50, x4v51, x5v52, x6v53, x7v54, x8v55, x9v56, x10v57, x11v58], h65)) (fun _ _ => none)) (some (.normal, [x0v49, x1v50, x4v51, x5v52, x6v53, x7v54, x8v55, x9v56, x10v57, x11v58], h59))).bind fun r66 => (fun x0v67 x1v68 x4v69 x5v70 x6v71 x7v72 x8v73 x9v74 x10v75 x11v76 h77 => Ex.nrm r66.1 ((afieldAt 4 x10v75).bind fun t78 => (aload false 1 h77 t78).bind fun t79 => bindRes (K 233 [(AVal.untok x0v67), (AVal.untok (.int .i64 0))] (hide (lockIds [0] [t78]) h77)) (fun t80 h81 => bindVH (abuildSlice 1 5 [(.int .i64 0), (.int .i64 0), (.int .i64 0), (.str []), (.slice [] .nil)] [(0, t80)] (hide (lockIds [0] [t78]) (unhide (lockIds [0] [t78]) h77 h81))) fun t82 h83 => bindVH (aappend 5 64 (unhide (lockIds [0] [t78]) (unhide (lockIds [0] [t78]) h77 h81) h83) t79 t82) fun t84 h85 => (afieldAt 4 x10v75).bind fun t86 => (astore 1 h85 t86 t84).bind fun h87 => (abin .add x11v76 (.int .i64 1)).bind fun t88 => endR m .normal [x0v67, x1v68, x4v69, x5v70, x6v71, x7v72, x8v73, x9v74, x10v75, t88] h87) (fun _ _ => none))) (List.getD r66.2.1 0 .junk) (List.getD r66.2.1 1 .junk) (List.getD r66.2.1 2 .junk) (List.getD r66.2.1 3 .junk) (List.getD r66.2.1 4 .junk) (List.getD r66.2.1 5 .junk) (List.getD r66.2.1 6 .junk) (List.getD r66.2.1 7 .junk) (List.getD r66.2.1 8 .junk) (List.getD r66.2.1 9 .junk) r66.2.2) (endR m (.exit 2) [x0v49, x1v50, x4v51, x5v52, x6v53, x7v54, x8v55, x9v56, x10v57, x11v58] h59)) (List.getD s.1 0 .junk) (List.getD s.1 1 .junk) (List.getD s.1 2 .junk) (List.getD s.1 3 .junk) (List.getD s.1 4 .junk) (List.getD s.1 5 .junk) (List.getD s.1 6 .junk) (List.getD s.1 7 .junk) (List.getD s.1 8 .junk) (List.getD s.1 9 .junk) s.2
noncomputable def m261_l1 (K : CallO) (m : Nat) (s : List AVal × Heap) : Option R :=
  (fun x0v19 x1v20 x4v21 x5v22 x6v23 x7v24 x8v25 x9v26 h27 => (abin .lss x9v26 (.int .i64 5)).bind fun t28 => acond t28 (((aindexSl 1 x6v23 x9v26).bind fun t29 => (aload false 1 h27 t29).bind fun t30 => (abin .neq t30 x1v20).bind fun t31 => acond t31 (some ((.exit 1), [x0v19, x1v20, x4v21, x5v22, x6v23, x7v24, x8v25, x9v26], h27)) ((aindexSl 1 x7v24 x9v26).bind fun t32 => (aload false 1 h27 t32).bind fun t33 => (afieldAt 1 x5v22).bind fun t34 => (aload false 1 h27 t34).bind fun t35 => (abuild [(.int .i64 0), (.int .i64 0), (.int .i64 0), (.str []), (.slice [] .nil)] [(0, 1), (1, 1), (2, 1), (3, 1), (4, 1)] [(0, t33), (1, t35)]).bind fun t36 => bindVH (anew 5 (hide (lockIds [0, 1] [t32, t34]) h27) (.agg [(.int .i64 0), (.int .i64 0), (.int .i64 0), (.str []), (.slice [] .nil)])) fun t37 h38 => (astore 5 (unhide (lockIds [0, 1] [t32, t34]) h27 h38) t37 t36).bind fun h39 => (anilCheck x0v19).bind fun t40 => (afieldAt 1 t40).bind fun t41 => (aload false 1 h39 t41).bind fun t42 => (abin .add t42 (.int .i64 1)).bind fun t43 => (anilCheck x0v19).bind fun t44 => (afieldAt 1 t44).bind fun t45 => (astore 1 h39 t45 t43).bind fun h46 => bindRes (K 186 [(AVal.untok x0v19), (AVal.untok (.str [40]))] h46) (fun t47 h48 => (lpW (m261_l0 K (List.length h48)) ([x0v19, x1v20, x4v21, x5v22, x6v23, x7v24, x8v25, x9v26, t37, (.int .i64 0)], h48)).bind fun r89 => (fun x0v91 x1v92 x4v93 x5v94 x6v95 x7v96 x8v97 x9v98 x10v99 x11v100 h101 => Ex.thenDo r89.1 none (fun e90 => Ex.inBlock 2 e90 ((abin .eql x1v92 (.str [114, 111, 114])).bind fun t103 => (acond t103 (bindRes (K 147 [(AVal.untok x0v91), (AVal.untok (.str [44]))] h101) (fun t104 h105 => bindRes (K 148 [(AVal.untok x0v91), (AVal.untok (.int .i64 2))] h105) (fun t106 h107 => (afield false 1 2 t106).bind fun t108 => (afieldAt 2 x10v99).bind fun t109 => (astore 1 h107 t109 t108).bind fun h110 => some (.normal, [x0v91, x1v92, x4v93, x5v94, x6v95, x7v96, x8v97, x9v98, x10v99], h110)) (fun _ _ => none)) (fun _ _ => none)) (some (.normal, [x0v91, x1v92, x4v93, x5v94, x6v95, x7v96, x8v97, x9v98, x10v99], h101))).bind fun r111 => (fun x0v112 x1v113 x4v114 x5v115 x6v116 x7v117 x8v118 x9v119 x10v120 h121 => Ex.nrm r111.1 (bindRes (K 188 [(AVal.untok x0v112), (AVal.untok (.str [41]))] h121) (fun t122 h123 => (aload true 5 h123 x10v120).bind fun t124 => (astore 5 h123 x4v114 t124).bind fun h125 => some (.ret, [x0v112, x1v113, x4v114, x5v115, x6v116, x7v117, x8v118, x9v119], h125)) (fun _ _ => none))) (List.getD r111.2.1 0 .junk) (List.getD r111.2.1 1 .junk) (List.getD r111.2.1 2 .junk) (List.getD r111.2.1 3 .junk) (List.getD r111.2.1 4 .junk) (List.getD r111.2.1 5 .junk) (List.getD r111.2.1 6 .junk) (List.getD r111.2.1 7 .junk) (List.getD r111.2.1 8 .junk) r111.2.2) (fun e102 => some (e102, [x0v91, x1v92, x4v93, x5v94, x6v95, x7v96, x8v97, x9v98], h101)))) (List.getD r89.2.1 0 .junk) (List.getD r89.2.1 1 .junk) (List.getD r89.2.1 2 .junk) (List.getD r89.2.1 3 .junk) (List.getD r89.2.1 4 .junk) (List.getD r89.2.1 5 .junk) (List.getD r89.2.1 6 .junk) (List.getD r89.2.1 7 .junk) (List.getD r89.2.1 8 .junk) (List.getD r89.2.1 9 .junk) r89.2.2) (fun _ _ => none))).bind fun r126 => (fun x0v127 x1v128 x4v129 x5v130 x6v131 x7v132 x8v133 x9v134 h135 => Ex.inBlock 1 r126.1 ((abin .add x9v134 (.int .i64 1)).bind fun t137 => endR m .normal [x0v127, x1v128, x4v129, x5v130, x6v131, x7v132, x8v133, t137] h135) (fun e136 => endR m e136 [x0v127, x1v128, x4v129, x5v130, x6v131, x7v132, x8v133, x9v134] h135)) (List.getD r126.2.1 0 .junk) (List.getD r126.2.1 1 .junk) (List.getD r126.2.1 2 .junk) (List.getD r126.2.1 3 .junk) (List.getD r126.2.1 4 .junk) (List.getD r126.2.1 5 .junk) (List.getD r126.2.1 6 .junk) (List.getD r126.2.1 7 .junk) r126.2.2) (endR m (.exit 0) [x0v19, x1v20, x4v21, x5v22, x6v23, x7v24, x8v25, x9v26] h27)) (List.getD s.1 0 .junk) (List.getD s.1 1 .junk) (List.getD s.1 2 .junk) (List.getD s.1 3 .junk) (List.getD s.1 4 .junk) (List.getD s.1 5 .junk) (List.getD s.1 6 .junk) (List.getD s.1 7 .junk) s.2
noncomputable def m261 (K : CallO) (a0 a1 : AVal) (h0 : Heap) : Option (Res × Heap) :=
  (bindVH (anew 5 h0 (.agg [(.int .i64 0), (.int .i64 0), (.int .i64 0), (.str []), (.slice [] .nil)])) fun t0 h1 => (anilCheck a0).bind fun t2 => (afieldAt 0 t2).bind fun t3 => (aload false 1 h1 t3).bind fun t4 => (anilCheck a0).bind fun t5 => (afieldAt 1 t5).bind fun t6 => (aload false 1 h1 t6).bind fun t7 => (aindexSl 4 t4 t7).bind fun t8 => (aload true 4 h1 t8).bind fun t9 => bindVH (anew 4 (hide (lockIds [0, 1, 2] [t3, t6, t8]) h1) (.agg [(.int .i64 0), (.int .i64 0), (.int .i64 0), (.str [])])) fun t10 h11 => (astore 4 (unhide (lockIds [0, 1, 2] [t3, t6, t8]) h1 h11) t10 t9).bind fun h12 => bindVH (abuildSlice 5 1 [(.str [])] [(0, (.str [109, 117, 108, 104, 105])), (1, (.str [99, 97, 114, 114, 121])), (2, (.str [115, 101, 108, 101, 99, 116])), (3, (.str [119, 111, 114, 100])), (4, (.str [114, 111, 114]))] h12) fun t13 h14 => bindVH (abuildSlice 5 1 [(.int .i64 0)] [(0, (.int .i64 23)), (1, (.int .i64 24)), (2, (.int .i64 25)), (3, (.int .i64 26)), (4, (.int .i64 16))] h14) fun t15 h16 => bindVH (abuildSlice 5 1 [(.int .i64 0)] [(0, (.int .i64 2)), (1, (.int .i64 2)), (2, (.int .i64 3)), (3, (.int .i64 1)), (4, (.int .i64 1))] h16) fun t17 h18 => (lpW (m261_l1 K (List.length h18)) ([a0, a1, t0, t10, t13, t15, t17, (.int .i64 0)], h18)).bind fun r138 => (fun x0v140 x1v141 x4v142 x5v143 x6v144 x7v145 x8v146 x9v147 h148 => Ex.thenDo r138.1 none (fun e139 => Ex.inBlock 0 e139 ((afieldAt 0 x5v143).bind fun t150 => (aload false 1 h148 t150).bind fun t151 => (abin .eql t151 (.int .i64 2)).bind fun t152 => acond t152 ((anilCheck x0v140).bind fun t153 => (afieldAt 1 t153).bind fun t154 => (aload false 1 h148 t154).bind fun t155 => (abin .add t155 (.int .i64 1)).bind fun t156 => (anilCheck x0v140).bind fun t157 => (afieldAt 1 t157).bind fun t158 => (astore 1 h148 t158 t156).bind fun h159 => (afieldAt 1 x5v143).bind fun t160 => (aload false 1 h159 t160).bind fun t161 => (afieldAt 2 x5v143).bind fun t162 => (aload false 1 h159 t162).bind fun t163 => (abuild [(.int .i64 0), (.int .i64 0), (.int .i64 0), (.str []), (.slice [] .nil)] [(0, 1), (1, 1), (2, 1), (3, 1), (4, 1)] [(0, (.int .i64 1)), (1, t161), (2, t163)]).bind fun t164 => (astore 5 h159 x4v142 t164).bind fun h165 => some (.ret, [x4v142], h165)) (bindRes (K 148 [(AVal.untok x0v140), (AVal.untok (.int .i64 1))] h148) (fun t166 h167 => bindVH (anew 4 h167 (.agg [(.int .i64 0), (.int .i64 0), (.int .i64 0), (.str [])])) fun t168 h169 => (astore 4 h169 t168 t166).bind fun h170 => (aload true 4 h170 t168).bind fun t171 => bindRes (K 254 [(AVal.untok x0v140), (AVal.untok t171)] h170) (fun t172 h173 => (astore 5 h173 x4v142 t172).bind fun h174 => some (.ret, [x4v142], h174)) (fun _ _ => none)) (fun _ _ => none))) (fun e149 => some (e149, [x4v142], h148)))) (List.getD r138.2.1 0 .junk) (List.getD r138.2.1 1 .junk) (List.getD r138.2.1 2 .junk) (List.getD r138.2.1 3 .junk) (List.getD r138.2.1 4 .junk) (List.getD r138.2.1 5 .junk) (List.getD r138.2.1 6 .junk) (List.getD r138.2.1 7 .junk) r138.2.2).bind fun r175 => (fun x4v176 h177 => Ex.endF r175.1 ((aload true 5 h177 x4v176).bind fun t178 => finR (List.length h0) t178 h177)) (List.getD r175.2.1 0 .junk) r175.2.2
theorem m261_eq (K : CallO) (a0 a1 : AVal) (h0 : Heap) : evB Tryd.prog ann lpW K 261 [a0, a1] h0 = m261 (callP ann K) a0 a1 h0 := by kernel_rfl

end Go.Proofs.YtkeoalhglkfbkaaDoor

/-
  The heap of the document's parser. No conditions.
-/
namespace Go.Proofs.YtkeoalhglkfbkaaDoor
open Go Hk

/-- The reader: tokens, how far it has read, how many nests are open, and the first error. -/
def RB (L : List Token) (a d e p : Nat) : ABlk := .cells [.slice (L.map Token.cells) .no, .int .i64 (a : Int), .int .i64 (d : Int), .int .i64 (e : Int), .int .i64 (p : Int)]
def RQ (A : List ABlk) (L : List Token) (a d e p : Nat) (B : List ABlk) : Heap := A ++ RB L a d e p :: B

section
variable {A B C : List ABlk} {L : List Token} {a d er p k : Nat}
theorem RQ_p : getBlk (RQ A L a d er p B) A.length = some [.slice (L.map Token.cells) .no, .int .i64 (a : Int), .int .i64 (d : Int), .int .i64 (er : Int), .int .i64 (p : Int)] := by simp [RQ, getBlk, RB]
theorem RQ_put {a' d' e' p' : Nat} : List.set (RQ A L a d er p B) A.length (.cells [.slice (L.map Token.cells) .no, .int .i64 (a' : Int), .int .i64 (d' : Int), .int .i64 (e' : Int), .int .i64 (p' : Int)]) = RQ A L a' d' e' p' B := by
  unfold RQ; rw [List.set_append_right _ _ (Nat.le_refl _), Nat.sub_self]; rfl
theorem RQ_next {d' e' p' : Nat} : List.set (RQ A L a d er p B) A.length (.cells [.slice (L.map Token.cells) .no, .int .i64 ((a : Int) + 1), .int .i64 (d' : Int), .int .i64 (e' : Int), .int .i64 (p' : Int)]) = RQ A L (a + 1) d' e' p' B := RQ_put (a' := a + 1)
theorem RQ_up {a' e' p' : Nat} : List.set (RQ A L a d er p B) A.length (.cells [.slice (L.map Token.cells) .no, .int .i64 (a' : Int), .int .i64 ((d : Int) + 1), .int .i64 (e' : Int), .int .i64 (p' : Int)]) = RQ A L a' (d + 1) e' p' B := RQ_put (d' := d + 1)
theorem RQ_upS {a' e' p' : Nat} : List.set (RQ A L a d er p B) A.length (.cells [.slice (L.map Token.cells) .no, .int .i64 ((a' : Int) + 1), .int .i64 ((d : Int) + 1), .int .i64 (e' : Int), .int .i64 (p' : Int)]) = RQ A L (a' + 1) (d + 1) e' p' B := RQ_put (d' := d + 1) (a' := a' + 1)
theorem RQ_app : RQ A L a d er p B ++ C = RQ A L a d er p (B ++ C) := by simp [RQ]
theorem RQ_len : (RQ A L a d er p B).length = HN A B := by simp [RQ, HN]; omega
theorem RQ_get : getBlk (RQ A L a d er p (B ++ C)) (HN A B + k) = getBlk C k := by
  unfold getBlk RQ HN
  rw [List.getElem?_append_right (by omega), show A.length + 1 + B.length + k - A.length = B.length + k + 1 by omega, List.getElem?_cons_succ, List.getElem?_append_right (by omega), show B.length + k - B.length = k by omega]
theorem RQ_get0 : getBlk (RQ A L a d er p (B ++ C)) (HN A B) = getBlk C 0 := RQ_get (k := 0)
theorem RQ_at : (RQ A L a d er p (B ++ C))[HN A B + k]? = C[k]? := by
  unfold RQ HN
  rw [List.getElem?_append_right (by omega), show A.length + 1 + B.length + k - A.length = B.length + k + 1 by omega, List.getElem?_cons_succ, List.getElem?_append_right (by omega), show B.length + k - B.length = k by omega]
theorem RQ_at0 : (RQ A L a d er p (B ++ C))[HN A B]? = C[0]? := RQ_at (k := 0)
theorem RQ_fresh : isFresh (RQ A L a d er p (B ++ C)) (HN A B + k) = isFresh C k := by unfold isFresh; rw [RQ_at]
theorem RQ_fresh0 : isFresh (RQ A L a d er p (B ++ C)) (HN A B) = isFresh C 0 := RQ_fresh (k := 0)
theorem RQ_set {x : ABlk} : List.set (RQ A L a d er p (B ++ C)) (HN A B + k) x = RQ A L a d er p (B ++ C.set k x) := by
  unfold RQ HN
  rw [List.set_append_right _ _ (by omega), show A.length + 1 + B.length + k - A.length = B.length + k + 1 by omega, List.set_cons_succ, List.set_append_right _ _ (by omega), show B.length + k - B.length = k by omega]
theorem RQ_set0 {x : ABlk} : List.set (RQ A L a d er p (B ++ C)) (HN A B) x = RQ A L a d er p (B ++ C.set 0 x) := RQ_set (k := 0)
theorem RQ_hide1 : hide1 (RQ A L a d er p (B ++ C)) (HN A B + k) = RQ A L a d er p (B ++ hide1 C k) := by
  unfold hide1
  rw [RQ_at]
  cases C[k]? with
  | none => rfl
  | some b => cases b <;> first | rfl | exact RQ_set
theorem RQ_hide10 : hide1 (RQ A L a d er p (B ++ C)) (HN A B) = RQ A L a d er p (B ++ hide1 C 0) := RQ_hide1 (k := 0)
theorem RQ_unhide1 {a' d' e' p' : Nat} {C' : List ABlk} : unhide1 (RQ A L a d er p (B ++ C)) (RQ A L a' d' e' p' (B ++ C')) (HN A B + k) = RQ A L a' d' e' p' (B ++ unhide1 C C' k) := by
  unfold unhide1
  rw [RQ_at]
  cases C[k]? with
  | none => rfl
  | some b => cases b <;> first | rfl | exact RQ_set
theorem RQ_unhide10 {a' d' e' p' : Nat} {C' : List ABlk} : unhide1 (RQ A L a d er p (B ++ C)) (RQ A L a' d' e' p' (B ++ C')) (HN A B) = RQ A L a' d' e' p' (B ++ unhide1 C C' 0) := RQ_unhide1 (k := 0)
theorem RQ_trunc (h : KB A B) : trunc (HN A B) (RQ A L a d er p (B ++ C)) = some (RQ A L a d er p B) := by
  have e : RQ A L a d er p (B ++ C) = RQ A L a d er p B ++ C := RQ_app.symm
  unfold Hk.trunc
  rw [e, ← RQ_len (L := L) (a := a) (d := d) (er := er) (p := p), List.take_left, RQ_len]
  exact sanBlks_app (h.a _ (Nat.le_refl _) _ _ (Nat.le_refl _)) (by
    have : sanBlk (HN A B) (RQ A L a d er p B ++ C) (RB L a d er p) = some (RB L a d er p) := rfl
    simp only [sanBlks, this, h.b _ (Nat.le_refl _) _ _ (Nat.le_refl _)])
theorem RQ_trunc0 (h : KB A B) : trunc (HN A B) (RQ A L a d er p B) = some (RQ A L a d er p B) := by
  have := RQ_trunc (L := L) (a := a) (d := d) (er := er) (p := p) (C := []) h
  rwa [List.append_nil] at this
theorem RQ_finR {v : AVal} (h : KB A B) : finR (HN A B) v (RQ A L a d er p (B ++ C)) = some (.ret (v.san (HN A B) (RQ A L a d er p (B ++ C))).untok, RQ A L a d er p B) := by simp [finR, RQ_trunc h]
theorem RQ_finP {v : AVal} (h : KB A B) : finP (HN A B) v (RQ A L a d er p (B ++ C)) = some (.pan (v.san (HN A B) (RQ A L a d er p (B ++ C))).untok, RQ A L a d er p B) := by simp [finP, RQ_trunc h]
theorem RQ_finR0 {v : AVal} (h : KB A B) : finR (HN A B) v (RQ A L a d er p B) = some (.ret (v.san (HN A B) (RQ A L a d er p B)).untok, RQ A L a d er p B) := by simp [finR, RQ_trunc0 h]
theorem RQ_finP0 {v : AVal} (h : KB A B) : finP (HN A B) v (RQ A L a d er p B) = some (.pan (v.san (HN A B) (RQ A L a d er p B)).untok, RQ A L a d er p B) := by simp [finP, RQ_trunc0 h]
theorem RQ_app1 {rows new : List (List AVal)} {sz by_ sz' : Nat} {t : Tok} (hc : C[k]? = some (.front rows.length sz')) (hs : sz' = sz ∨ rows.length = 0 ∧ sz' = 0) (hr : ∀ r ∈ new, r.length = sz) (hn : new ≠ [])
    (hb : (rows.length + new.length) * by_ ≤ 140737488355328) (hb2 : rows.length + new.length ≤ 140737488355328) :
    aappend sz by_ (RQ A L a d er p (B ++ C)) (.slice rows (.own (HN A B + k))) (.slice new t) =
      some (.slice (rows ++ new) (.own (HN A B + k)), RQ A L a d er p (B ++ C.set k (.front (rows.length + new.length) sz))) := by
  have h1 : (new.all fun r => r.length == sz) = true := by simpa using hr
  have h2 : ¬ new.length = 0 := by simpa using hn
  simp only [aappend, arowsS, h1, if_true, RQ_at, hc]
  rw [if_pos ⟨trivial, hs, hb, hb2⟩, if_neg h2, RQ_set]

theorem RQ_truncK (h : KB A (B ++ C.take k)) (hk : k ≤ C.length) : trunc (HN A B + k) (RQ A L a d er p (B ++ C)) = some (RQ A L a d er p (B ++ C.take k)) := by
  have := RQ_trunc (L := L) (a := a) (d := d) (er := er) (p := p) (C := C.drop k) h
  rw [HN_app, List.append_assoc, List.take_append_drop, List.length_take, Nat.min_eq_left hk] at this
  exact this
theorem RQ_truncG {C1 C1' C2 : List ABlk} (hB : KB A B) (hk : k = C1.length) (hs : sanBlks (HN A B + k) (RQ A L a d er p (B ++ (C1 ++ C2))) C1 = some C1') :
    trunc (HN A B + k) (RQ A L a d er p (B ++ (C1 ++ C2))) = some (RQ A L a d er p (B ++ C1')) := by
  subst hk
  have e : RQ A L a d er p (B ++ (C1 ++ C2)) = RQ A L a d er p (B ++ C1) ++ C2 := by rw [RQ_app, List.append_assoc]
  have hl : HN A B + C1.length = (RQ A L a d er p (B ++ C1)).length := by rw [RQ_len, HN_app]
  have app : ∀ {m : Nat} {h : Heap} {X Y X' Y' : List ABlk}, sanBlks m h X = some X' → sanBlks m h Y = some Y' → sanBlks m h (X ++ Y) = some (X' ++ Y') := by
    intro m h X
    induction X with
    | nil => intro Y X' Y' h1 h2; simp [sanBlks] at h1; subst h1; exact h2
    | cons b r ih =>
      intro Y X' Y' h1 h2
      rw [sanBlks_cons, Option.bind_eq_some_iff] at h1
      obtain ⟨b', e1, e2⟩ := h1
      rw [Option.map_eq_some_iff] at e2
      obtain ⟨r', e3, rfl⟩ := e2
      rw [List.cons_append, sanBlks_cons, e1, Option.bind_some, ih e3 h2]
      rfl
  unfold Hk.trunc
  rw [show List.take (HN A B + C1.length) (RQ A L a d er p (B ++ (C1 ++ C2))) = RQ A L a d er p (B ++ C1) by rw [e, hl, List.take_left]]
  unfold RQ at hs ⊢
  have hPB : ∀ m h, sanBlk m h (RB L a d er p) = some (RB L a d er p) := fun _ _ => rfl
  refine app (hB.a _ (Nat.le_refl _) _ _ (by omega)) ?_
  rw [sanBlks_cons, hPB, Option.bind_some, app (hB.b _ (Nat.le_refl _) _ _ (by omega)) hs]
  rfl

theorem RQ_put0 {a' d' : Nat} : List.set (RQ A L a d er p B) A.length (.cells [.slice (L.map Token.cells) .no, .int .i64 (a' : Int), .int .i64 (d' : Int), .int .i64 0, .int .i64 0]) = RQ A L a' d' 0 0 B := RQ_put (e' := 0) (p' := 0)
theorem RQ_next0 {d' : Nat} : List.set (RQ A L a d er p B) A.length (.cells [.slice (L.map Token.cells) .no, .int .i64 ((a : Int) + 1), .int .i64 (d' : Int), .int .i64 0, .int .i64 0]) = RQ A L (a + 1) d' 0 0 B := RQ_put (a' := a + 1) (e' := 0) (p' := 0)
theorem RQ_up0 {a' : Nat} : List.set (RQ A L a d er p B) A.length (.cells [.slice (L.map Token.cells) .no, .int .i64 (a' : Int), .int .i64 ((d : Int) + 1), .int .i64 0, .int .i64 0]) = RQ A L a' (d + 1) 0 0 B := RQ_put (d' := d + 1) (e' := 0) (p' := 0)
theorem RQ_up0S {a' : Nat} : List.set (RQ A L a d er p B) A.length (.cells [.slice (L.map Token.cells) .no, .int .i64 ((a' : Int) + 1), .int .i64 ((d : Int) + 1), .int .i64 0, .int .i64 0]) = RQ A L (a' + 1) (d + 1) 0 0 B := RQ_put (a' := a' + 1) (d' := d + 1) (e' := 0) (p' := 0)
theorem RQ_put10 {a' d' p' : Nat} : List.set (RQ A L a d er p B) A.length (.cells [.slice (L.map Token.cells) .no, .int .i64 (a' : Int), .int .i64 (d' : Int), .int .i64 10, .int .i64 (p' : Int)]) = RQ A L a' d' 10 p' B := RQ_put (e' := 10)
theorem RQ_up10 {a' p' : Nat} : List.set (RQ A L a d er p B) A.length (.cells [.slice (L.map Token.cells) .no, .int .i64 (a' : Int), .int .i64 ((d : Int) + 1), .int .i64 10, .int .i64 (p' : Int)]) = RQ A L a' (d + 1) 10 p' B := RQ_put (d' := d + 1) (e' := 10)
theorem RQ_up11 {a' p' : Nat} : List.set (RQ A L a d er p B) A.length (.cells [.slice (L.map Token.cells) .no, .int .i64 (a' : Int), .int .i64 ((d : Int) + 1), .int .i64 11, .int .i64 (p' : Int)]) = RQ A L a' (d + 1) 11 p' B := RQ_put (d' := d + 1) (e' := 11)
attribute [simp] RQ_up10 RQ_up11
/-- The reader's block, hidden. -/
def GQ (A : List ABlk) (B : List ABlk) : Heap := A ++ .gone :: B
theorem GQ_app : GQ A B ++ C = GQ A (B ++ C) := by simp [GQ]
theorem GQ_len : (GQ A B).length = HN A B := by simp [GQ, HN]; omega
theorem RQ_hide : hide1 (RQ A L a d er p B) A.length = GQ A B := by
  unfold hide1
  have : (RQ A L a d er p B)[A.length]? = some (RB L a d er p) := by unfold RQ; rw [List.getElem?_append_right (Nat.le_refl _), Nat.sub_self]; rfl
  rw [this]
  simp only [RB, RQ, GQ]
  rw [List.set_append_right _ _ (Nat.le_refl _), Nat.sub_self]; rfl
theorem GQ_hide : hide1 (GQ A B) A.length = GQ A B := by
  unfold hide1
  have : (GQ A B)[A.length]? = some .gone := by unfold GQ; rw [List.getElem?_append_right (Nat.le_refl _), Nat.sub_self]; rfl
  rw [this]
theorem RQ_unhide {a' d' e' p' : Nat} : unhide1 (RQ A L a d er p B) (RQ A L a' d' e' p' C) A.length = RQ A L a d er p C := by
  unfold unhide1
  have : (RQ A L a d er p B)[A.length]? = some (RB L a d er p) := by unfold RQ; rw [List.getElem?_append_right (Nat.le_refl _), Nat.sub_self]; rfl
  rw [this]
  simp only [RB, RQ]
  rw [List.set_append_right _ _ (Nat.le_refl _), Nat.sub_self]; rfl
theorem GQ_unhide : unhide1 (RQ A L a d er p B) (GQ A C) A.length = RQ A L a d er p C := by
  unfold unhide1
  have : (RQ A L a d er p B)[A.length]? = some (RB L a d er p) := by unfold RQ; rw [List.getElem?_append_right (Nat.le_refl _), Nat.sub_self]; rfl
  rw [this]
  simp only [RB, RQ, GQ]
  rw [List.set_append_right _ _ (Nat.le_refl _), Nat.sub_self]; rfl
attribute [simp] RQ_put0 RQ_next0 RQ_up0 RQ_up0S RQ_put10 GQ_app GQ_len RQ_hide GQ_hide RQ_unhide GQ_unhide

attribute [simp] RQ_p RQ_put RQ_next RQ_up RQ_upS RQ_hide1 RQ_hide10 RQ_unhide1 RQ_unhide10 RQ_fresh RQ_fresh0 RQ_len RQ_app RQ_get RQ_get0 RQ_at RQ_at0 RQ_set RQ_set0 RQ_finR RQ_finP RQ_finR0 RQ_finP0
end
end Go.Proofs.YtkeoalhglkfbkaaDoor

/-
  The document's parser: its least functions, by the evaluator. No conditions.
-/
namespace Go.Proofs.YtkeoalhglkfbkaaDoor
open Go Hk

/-- How an answer, a place and an error go with the plain parser. -/
def Agree {α : Type} (o : Out α) (v : α) (a' e' p' : Nat) : Prop := match o with
  | .ok v0 a0 _ => v = v0 ∧ a' = a0 ∧ e' = 0 ∧ p' = 0
  | .bad e p _ _ => e' = e ∧ p' = p ∧ e ≠ 0
/-- The function where all went well so far. -/
def ROk (L : List Token) (dk : Nat → Prop) (f : Nat) (args : List AVal) (k : Nat → Nat) {α : Type} (enc : α → AVal) (x : PM α) : Prop :=
  ∀ A B a d, a < L.length → dk d → KB A B → ∃ v a' e' p', KK f (.ptr A.length 0 :: args) (RQ A L a d 0 0 B) = some (.ret (enc v), RQ A L a' (k d) e' p' B) ∧ a' < L.length ∧ Agree (x a d) v a' e' p'
/-- The function behind an error. -/
def RBad (L : List Token) (dk : Nat → Prop) (f : Nat) (args : List AVal) (k : Nat → Nat) (r : AVal) : Prop :=
  ∀ A B a d e p, a < L.length → dk d → KB A B → e ≠ 0 → KK f (.ptr A.length 0 :: args) (RQ A L a d e p B) = some (.ret r, RQ A L a (k d) e p B)

theorem text_is {t : Token} {w : List UInt8} (hw : w ≠ []) : textS t = w ↔ isS t w = true := by
  unfold textS isS
  by_cases h3 : t.kind = 3
  · simp [h3]
  · by_cases h4 : t.kind = 4
    · simp [h4]
    · simp [h3, h4, Ne.symm hw]

section
variable {L : List Token} (hL : L.length ≤ 131072)

theorem r184 {A B : List ABlk} {a d e p : Nat} (ha : a < L.length) (hB : KB A B) : KK 184 [.ptr A.length 0] (RQ A L a d e p B) = some (.ret (.str (textS (tk L a))), RQ A L a d e p B) := by
  refine evW_by (m184_eq _ _ _) ?_
  simp -implicitDefEqProofs [m184, ha, hB]
  generalize tk L a = t
  obtain ⟨k, q, n, x⟩ := t
  by_cases h3 : k = 3
  · subst h3; simp -implicitDefEqProofs [Token.cells, textS, hB]
  · have h3' : ¬ (k : Int) = 3 := by omega
    by_cases h4 : k = 4
    · subst h4; simp -implicitDefEqProofs [Token.cells, textS, hB]
    · have h4' : ¬ (k : Int) = 4 := by omega
      simp -implicitDefEqProofs [Token.cells, textS, hB, h3, h3', h4, h4']
theorem r185 {A B : List ABlk} {a d p : Nat} (e0 : Nat) (ha : a < L.length) (hB : KB A B) : KK 185 [.ptr A.length 0, .int .i64 (e0 : Int)] (RQ A L a d 0 p B) = some (.ret (.tuple []), RQ A L a d e0 (tk L a).pos B) := by
  refine evW_by (m185_eq _ _ _ _) ?_
  simp -implicitDefEqProofs [m185, ha, hB, Token.cells]
theorem r185b {A B : List ABlk} {a d e p : Nat} (e0 : Nat) (ha : a < L.length) (hB : KB A B) (he : e ≠ 0) : KK 185 [.ptr A.length 0, .int .i64 (e0 : Int)] (RQ A L a d e p B) = some (.ret (.tuple []), RQ A L a d e p B) := by
  refine evW_by (m185_eq _ _ _ _) ?_
  have he' : ¬ (e : Int) = 0 := by omega
  simp -implicitDefEqProofs [m185, ha, hB, he, he']
include hL
theorem r147 {w : List UInt8} (hw : w ≠ []) (hK : TokOk L) : ROk L (fun _ => True) 147 [.str w] (fun d => d) uEnc (pTake L w) := by
  intro A B a d ha hd hB
  have h184 := fun e p => r184 (L := L) (d := d) (e := e) (p := p) ha hB
  have h185 := r185 (L := L) (d := d) (p := 0) 10 ha hB
  simp only [Int.cast_ofNat_Int] at h185
  have w1 := wrapS (a := a) (by omega)
  have ht := text_is (t := tk L a) hw
  cases hs : isS (tk L a) w
  · have ht' : ¬ textS (tk L a) = w := fun h => by rw [ht.1 h] at hs; cases hs
    refine ⟨(), a, 10, (tk L a).pos, evW_by (m147_eq _ _ _ _) ?_, ha, ?_⟩
    · simp -implicitDefEqProofs [m147, ha, hB, h184, h185, ht']
    · simp [Agree, pTake, hs]
  · have ht' := ht.2 hs
    have ha1 := isS_lt hK ha hs
    refine ⟨(), a + 1, 0, 0, evW_by (m147_eq _ _ _ _) ?_, ha1, ?_⟩
    · simp -implicitDefEqProofs [m147, ha, hB, h184, ht', w1]
    · simp [Agree, pTake, hs]
theorem r147b {w : List UInt8} : RBad L (fun _ => True) 147 [.str w] (fun d => d) (.tuple []) := by
  intro A B a d e p ha hd hB he
  refine evW_by (m147_eq _ _ _ _) ?_
  have he' : ¬ (e : Int) = 0 := by omega
  simp -implicitDefEqProofs [m147, ha, hB, he, he']
omit hL in
theorem r149 {w : List UInt8} (hw : w ≠ []) {A B : List ABlk} {a d : Nat} (ha : a < L.length) (hB : KB A B) : KK 149 [.ptr A.length 0, .str w] (RQ A L a d 0 0 B) = some (.ret (.bool (isS (tk L a) w)), RQ A L a d 0 0 B) := by
  have h184 := fun e p => r184 (L := L) (d := d) (e := e) (p := p) ha hB
  have ht := text_is (t := tk L a) hw
  refine evW_by (m149_eq _ _ _ _) ?_
  cases hs : isS (tk L a) w
  · have ht' : ¬ textS (tk L a) = w := fun h => by rw [ht.1 h] at hs; cases hs
    simp -implicitDefEqProofs [m149, ha, hB, h184, ht']
  · have ht' := ht.2 hs
    simp -implicitDefEqProofs [m149, ha, hB, h184, ht']
omit hL in
theorem r149b {w : List UInt8} : RBad L (fun _ => True) 149 [.str w] (fun d => d) (.bool false) := by
  intro A B a d e p ha hd hB he
  refine evW_by (m149_eq _ _ _ _) ?_
  have he' : ¬ (e : Int) = 0 := by omega
  simp -implicitDefEqProofs [m149, ha, hB, he, he']
theorem r151 {w : List UInt8} (hw : w ≠ []) {A B : List ABlk} {a d : Nat} (ha : a < L.length) (hB : KB A B) : KK 151 [.ptr A.length 0, .str w] (RQ A L a d 0 0 B) = some (.ret (.bool (isS (tk L a) w)), RQ A L (if isS (tk L a) w then a + 1 else a) d 0 0 B) := by
  have h184 := fun e p => r184 (L := L) (d := d) (e := e) (p := p) ha hB
  have ht := text_is (t := tk L a) hw
  have w1 := wrapS (a := a) (by omega)
  refine evW_by (m151_eq _ _ _ _) ?_
  cases hs : isS (tk L a) w
  · have ht' : ¬ textS (tk L a) = w := fun h => by rw [ht.1 h] at hs; cases hs
    simp -implicitDefEqProofs [m151, ha, hB, h184, ht']
  · have ht' := ht.2 hs
    simp -implicitDefEqProofs [m151, ha, hB, h184, ht', w1]
omit hL in
theorem r151b {w : List UInt8} : RBad L (fun _ => True) 151 [.str w] (fun d => d) (.bool false) := by
  intro A B a d e p ha hd hB he
  refine evW_by (m151_eq _ _ _ _) ?_
  have he' : ¬ (e : Int) = 0 := by omega
  simp -implicitDefEqProofs [m151, ha, hB, he, he']
def tok0 : Token := ⟨0, 0, 0, []⟩
theorem r148 {k : Nat} (hk : k ≠ 0) (hK : TokOk L) : ROk L (fun _ => True) 148 [.int .i64 (k : Int)] (fun d => d) tEnc (pKind L k) := by
  intro A B a d ha hd hB
  have h185 := fun C hC => r185 (L := L) (d := d) (p := 0) (A := A) (B := C) 10 ha hC
  simp only [Int.cast_ofNat_Int] at h185
  have w1 := wrapS (a := a) (by omega)
  by_cases hs : (tk L a).kind = k
  · have ha1 := kind_lt hK ha hk hs
    refine ⟨tk L a, a + 1, 0, 0, evW_by (m148_eq _ _ _ _) ?_, ha1, ?_⟩
    · simp -implicitDefEqProofs [m148, ha, hB, hs, w1, tEnc]
    · simp [Agree, pKind, hs]
  · have hs' : ¬ ((tk L a).kind : Int) = k := by omega
    refine ⟨tok0, a, 10, (tk L a).pos, evW_by (m148_eq _ _ _ _) ?_, ha, ?_⟩
    · simp -implicitDefEqProofs [m148, ha, hB, h185, hs, hs', w1, tEnc, tok0]
    · simp [Agree, pKind, hs]
omit hL in
theorem r148b {k : Nat} : RBad L (fun _ => True) 148 [.int .i64 (k : Int)] (fun d => d) (tEnc tok0) := by
  intro A B a d e p ha hd hB he
  refine evW_by (m148_eq _ _ _ _) ?_
  have he' : ¬ (e : Int) = 0 := by omega
  simp -implicitDefEqProofs [m148, ha, hB, he, he', tEnc, tok0]
theorem r186 {w : List UInt8} (hw : w ≠ []) (hK : TokOk L) : ROk L (fun d => d ≤ 64) 186 [.str w] (fun d => d + 1) uEnc (pOpen L w) := by
  intro A B a d ha hd hB
  have h149 := r149 (L := L) (d := d) hw ha hB
  have h185 := r185 (L := L) (d := d) (p := 0) 11 ha hB
  simp only [Int.cast_ofNat_Int] at h185
  have w1 := wrapS (a := d) (by omega)
  have h147b := r147b (L := L) hL (w := w)
  unfold RBad at h147b
  cases hs : isS (tk L a) w
  · obtain ⟨v, a1, e1, p1, g1, g2, g3⟩ := r147 hL hw hK A B a d ha trivial hB
    simp only [Agree, pTake, hs] at g3
    obtain ⟨rfl, rfl, g4⟩ := g3
    refine ⟨(), a1, 10, (tk L a).pos, evW_by (m186_eq _ _ _ _) ?_, g2, ?_⟩
    · simp -implicitDefEqProofs [m186, ha, hB, h149, hs, g1, w1]
    · simp [Agree, pOpen, hs]
  · by_cases h64 : d = 64
    · have h64' : (64 : Int) ≤ d := by omega
      refine ⟨(), a, 11, (tk L a).pos, evW_by (m186_eq _ _ _ _) ?_, ha, ?_⟩
      · have := h147b A B a d 11 (tk L a).pos ha trivial hB (by omega)
        simp -implicitDefEqProofs [m186, ha, hB, h149, hs, h185, this, h64', w1]
      · simp [Agree, pOpen, hs, h64]
    · have h64' : ¬ (64 : Int) ≤ d := by omega
      obtain ⟨v, a1, e1, p1, g1, g2, g3⟩ := r147 hL hw hK A B a d ha trivial hB
      simp only [Agree, pTake, hs, if_true] at g3
      obtain ⟨_, rfl, rfl, rfl⟩ := g3
      refine ⟨(), a + 1, 0, 0, evW_by (m186_eq _ _ _ _) ?_, g2, ?_⟩
      · simp -implicitDefEqProofs [m186, ha, hB, h149, hs, h64, h64', g1, w1]
      · simp [Agree, pOpen, hs, h64]
theorem r186b {w : List UInt8} : RBad L (fun d => d ≤ 1000) 186 [.str w] (fun d => d + 1) (.tuple []) := by
  intro A B a d e p ha hd hB he
  have h149b := r149b (L := L) (w := w) A B a d e p ha trivial hB he
  have h147b := r147b (L := L) hL (w := w) A B a d e p ha trivial hB he
  have w1 := wrapS (a := d) (by omega)
  refine evW_by (m186_eq _ _ _ _) ?_
  simp -implicitDefEqProofs [m186, ha, hB, h149b, h147b, w1]
theorem r188 {w : List UInt8} (hw : w ≠ []) (hK : TokOk L) : ROk L (fun d => 1 ≤ d ∧ d ≤ 1000) 188 [.str w] (fun d => d - 1) uEnc (pShut L w) := by
  intro A B a d ha hd hB
  obtain ⟨d, rfl⟩ : ∃ e, d = e + 1 := ⟨d - 1, by omega⟩
  have w1 := wrapN (a := d) (by omega)
  obtain ⟨v, a1, e1, p1, g1, g2, g3⟩ := r147 hL hw hK A B a (d + 1) ha trivial hB
  refine ⟨(), a1, e1, p1, evW_by (m188_eq _ _ _ _) ?_, g2, ?_⟩
  · simp -implicitDefEqProofs [m188, hB, g1, w1]
  · cases hs : isS (tk L a) w <;> simpa [Agree, pTake, pShut, hs] using g3
theorem r188b {w : List UInt8} : RBad L (fun d => 1 ≤ d ∧ d ≤ 1000) 188 [.str w] (fun d => d - 1) (.tuple []) := by
  intro A B a d e p ha hd hB he
  obtain ⟨d, rfl⟩ : ∃ e, d = e + 1 := ⟨d - 1, by omega⟩
  have h147b := r147b (L := L) hL (w := w) A B a (d + 1) e p ha trivial hB he
  have w1 := wrapN (a := d) (by omega)
  refine evW_by (m188_eq _ _ _ _) ?_
  simp -implicitDefEqProofs [m188, hB, h147b, w1]
theorem r152 (hK : TokOk L) : ROk L (fun _ => True) 152 [] (fun d => d) nEnc (pLabel L) := by
  intro A B a d ha hd hB
  have h151 := r151 (L := L) hL (d := d) (w := secS) (by decide) ha hB
  cases hs : isS (tk L a) secS
  · obtain ⟨v, a1, e1, p1, g1, g2, g3⟩ := r147 hL (w := pubS) (by decide) hK A B a d ha trivial hB
    rw [hs] at h151
    simp only [secS] at h151
    simp only [pubS] at g1
    refine ⟨0, a1, e1, p1, evW_by (m152_eq _ _ _) ?_, g2, ?_⟩
    · simp -implicitDefEqProofs [m152, hB, h151, g1, nEnc]
    · cases hq : isS (tk L a) pubS <;> simpa [Agree, pTake, pLabel, hs, hq] using g3
  · rw [hs] at h151
    simp only [secS] at h151
    refine ⟨1, a + 1, 0, 0, evW_by (m152_eq _ _ _) ?_, isS_lt hK ha hs, ?_⟩
    · simp -implicitDefEqProofs [m152, hB, h151, nEnc]
    · simp [Agree, pLabel, hs]
theorem r152b : RBad L (fun _ => True) 152 [] (fun d => d) (.int .i64 0) := by
  intro A B a d e p ha hd hB he
  have h151b := fun w => r151b (L := L) (w := w) A B a d e p ha trivial hB he
  have h147b := fun w => r147b (L := L) hL (w := w) A B a d e p ha trivial hB he
  refine evW_by (m152_eq _ _ _) ?_
  simp -implicitDefEqProofs [m152, hB, h151b, h147b]
end
end Go.Proofs.YtkeoalhglkfbkaaDoor

/-
  The document's parser: how its functions go on, well or behind an error. No conditions.
-/
namespace Go.Proofs.YtkeoalhglkfbkaaDoor
open Go Hk

/-- From a state to another one, as the plain parser; behind an error all stands. -/
structure Step (L : List Token) {α : Type} (x : PM α) (a d e p : Nat) (v : α) (a' e' p' : Nat) : Prop where
  lt : a' < L.length
  ok : e = 0 → p = 0 → Agree (x a d) v a' e' p'
  bad : e ≠ 0 → a' = a ∧ e' = e ∧ p' = p

def RC (L : List Token) (dk : Nat → Prop) (f : Nat) (args : List AVal) (k : Nat → Nat) {α : Type} (enc : α → AVal) (x : PM α) : Prop :=
  ∀ A B a d e p, a < L.length → dk d → KB A B → (e = 0 → p = 0) → ∃ v a' e' p', KK f (.ptr A.length 0 :: args) (RQ A L a d e p B) = some (.ret (enc v), RQ A L a' (k d) e' p' B) ∧ Step L x a d e p v a' e' p'

section
variable {L : List Token} {α β : Type} {x : PM α} {a d e p a1 e1 p1 a2 e2 p2 : Nat} {v : α} {w : β}

theorem Step.zero (s : Step L x a d e p v a1 e1 p1) (h : e = 0 → p = 0) : e1 = 0 → p1 = 0 := by
  intro h1
  by_cases he : e = 0
  · have := s.ok he (h he)
    unfold Agree at this
    cases hx : x a d with
    | ok v0 a0 d0 => rw [hx] at this; exact this.2.2.2
    | bad e0 p0 a0 d0 => rw [hx] at this; simp only at this; omega
  · obtain ⟨_, h2, h3⟩ := s.bad he
    omega
theorem Step.bind {f : α → PM β} {d1 : Nat} (s : Step L x a d e p v a1 e1 p1) (hd : ∀ v' a' d', x a d = .ok v' a' d' → d' = d1) (t : Step L (f v) a1 d1 e1 p1 w a2 e2 p2) : Step L (x >>= f) a d e p w a2 e2 p2 where
  lt := t.lt
  ok := fun he hp => by
    have h := s.ok he hp
    simp only [pm_bind, PM.bind]
    cases hx : x a d with
    | ok v0 a0 d0 =>
      rw [hx] at h
      obtain ⟨rfl, rfl, rfl, rfl⟩ := h
      have := hd _ _ _ hx
      subst this
      exact t.ok rfl rfl
    | bad e0 p0 a0 d0 =>
      rw [hx] at h
      obtain ⟨rfl, rfl, h0⟩ := h
      obtain ⟨_, h2, h3⟩ := t.bad h0
      exact ⟨h2, h3, h0⟩
  bad := fun he => by
    obtain ⟨rfl, rfl, rfl⟩ := s.bad he
    exact t.bad he
theorem Step.pure (ha : a < L.length) : Step L (pure v : PM α) a d e p v a e p where
  lt := ha
  ok := fun he hp => ⟨rfl, rfl, he, hp⟩
  bad := fun _ => ⟨rfl, rfl, rfl⟩
/-- Where there is an error already, anything goes. -/
theorem Step.any {y : PM β} (s : Step L x a d e p v a1 e1 p1) (he : e ≠ 0) : Step L y a d e p w a1 e1 p1 where
  lt := s.lt
  ok := fun h => absurd h he
  bad := s.bad
theorem Step.here {f : Token → PM α} (s : Step L (f (tk L a)) a d e p v a1 e1 p1) : Step L (pHere L >>= f) a d e p v a1 e1 p1 :=
  ⟨s.lt, fun he hp => s.ok he hp, s.bad⟩
theorem Step.stay (ha : a < L.length) (he : e ≠ 0) : Step L x a d e p v a e p := ⟨ha, fun h => absurd h he, fun _ => ⟨rfl, rfl, rfl⟩⟩

theorem RC.of {dk : Nat → Prop} {f : Nat} {args : List AVal} {k : Nat → Nat} {enc : α → AVal} {v0 : α} (h1 : ROk L dk f args k enc x) (h2 : RBad L dk f args k (enc v0)) : RC L dk f args k enc x := by
  intro A B a d e p ha hd hB hp
  by_cases he : e = 0
  · subst he
    have := hp rfl
    subst this
    obtain ⟨v, a', e', p', g1, g2, g3⟩ := h1 A B a d ha hd hB
    exact ⟨v, a', e', p', g1, g2, fun _ _ => g3, fun h => absurd rfl h⟩
  · exact ⟨v0, a, e, p, h2 A B a d e p ha hd hB he, Step.stay ha he⟩
end

/-- What 'sees' answers. -/
def see (e : Nat) (t : Token) (w : List UInt8) : Bool := decide (e = 0) && isS t w

section
variable {L : List Token} (hL : L.length ≤ 131072) (hK : TokOk L)
include hL hK

theorem q147 {w : List UInt8} (hw : w ≠ []) : RC L (fun _ => True) 147 [.str w] (fun d => d) uEnc (pTake L w) := .of (r147 hL hw hK) (v0 := ()) (r147b hL)
theorem q148 {k : Nat} (hk : k ≠ 0) : RC L (fun _ => True) 148 [.int .i64 (k : Int)] (fun d => d) tEnc (pKind L k) := .of (r148 hL hk hK) r148b
theorem q186 {w : List UInt8} (hw : w ≠ []) : RC L (fun d => d ≤ 64) 186 [.str w] (fun d => d + 1) uEnc (pOpen L w) := .of (r186 hL hw hK) (v0 := ()) (fun A B a d e p ha hd => r186b hL A B a d e p ha (by have : d ≤ 64 := hd; omega))
theorem q188 {w : List UInt8} (hw : w ≠ []) : RC L (fun d => 1 ≤ d ∧ d ≤ 1000) 188 [.str w] (fun d => d - 1) uEnc (pShut L w) := .of (r188 hL hw hK) (v0 := ()) (r188b hL)
theorem q152 : RC L (fun _ => True) 152 [] (fun d => d) nEnc (pLabel L) := .of (r152 hL hK) (v0 := 0) (r152b hL)
omit hL hK in
theorem q149 {w : List UInt8} (hw : w ≠ []) {A B : List ABlk} {a d e p : Nat} (ha : a < L.length) (hB : KB A B) (hp : e = 0 → p = 0) : KK 149 [.ptr A.length 0, .str w] (RQ A L a d e p B) = some (.ret (.bool (see e (tk L a) w)), RQ A L a d e p B) := by
  by_cases he : e = 0
  · subst he
    have := hp rfl
    subst this
    rw [r149 hw ha hB]; simp [see]
  · rw [r149b A B a d e p ha trivial hB he]; simp [see, he]
omit hK in
theorem q151 {w : List UInt8} (hw : w ≠ []) {A B : List ABlk} {a d e p : Nat} (ha : a < L.length) (hB : KB A B) (hp : e = 0 → p = 0) : KK 151 [.ptr A.length 0, .str w] (RQ A L a d e p B) = some (.ret (.bool (see e (tk L a) w)), RQ A L (if see e (tk L a) w = true then a + 1 else a) d e p B) := by
  by_cases he : e = 0
  · subst he
    have := hp rfl
    subst this
    rw [r151 hL hw ha hB]; simp [see]
  · rw [r151b A B a d e p ha trivial hB he]; simp [see, he]
omit hL hK in
/-- An error is kept, if it is the first. -/
theorem q185 {A B : List ABlk} {a d e p : Nat} (e0 : Nat) (ha : a < L.length) (hB : KB A B) (hp : e = 0 → p = 0) :
    KK 185 [.ptr A.length 0, .int .i64 (e0 : Int)] (RQ A L a d e p B) = some (.ret (.tuple []), RQ A L a d (if e = 0 then e0 else e) (if e = 0 then (tk L a).pos else p) B) := by
  by_cases he : e = 0
  · subst he
    rw [r185 e0 ha hB]; simp
  · rw [r185b e0 ha hB he]; simp [he]

theorem see_lt {a e : Nat} {w : List UInt8} (ha : a < L.length) (h : see e (tk L a) w = true) : e = 0 ∧ isS (tk L a) w = true ∧ a + 1 < L.length := by
  simp only [see, Bool.and_eq_true, decide_eq_true_eq] at h
  exact ⟨h.1, h.2, isS_lt hK ha h.2⟩

/-- What is seen, and passed: or not. -/
theorem Step.maybe {α : Type} {w : List UInt8} {f : Bool → PM α} {a d e p a1 e1 p1 : Nat} {v : α} (s : Step L (f (see e (tk L a) w)) (if see e (tk L a) w = true then a + 1 else a) d e p v a1 e1 p1) : Step L (pMaybe L w >>= f) a d e p v a1 e1 p1 where
  lt := s.lt
  ok := fun he hp => by
    have h := s.ok he hp
    subst he
    simp only [pm_bind, PM.bind, pMaybe]
    simpa [see] using h
  bad := fun he => by
    obtain ⟨h1, h2, h3⟩ := s.bad he
    have : see e (tk L a) w = false := by simp [see, he]
    rw [this] at h1
    exact ⟨h1, h2, h3⟩
theorem Step.sees {α : Type} {w : List UInt8} {f : Bool → PM α} {a d e p a1 e1 p1 : Nat} {v : α} (s : Step L (f (see e (tk L a) w)) a d e p v a1 e1 p1) : Step L (pIs L w >>= f) a d e p v a1 e1 p1 where
  lt := s.lt
  ok := fun he hp => by
    have h := s.ok he hp
    subst he
    simp only [pm_bind, PM.bind, pIs]
    simpa [see] using h
  bad := s.bad

/-- A type that is no array. -/
theorem q153s (l : Nat) : RC L (fun _ => True) 153 [.bool true, .int .i64 (l : Int)] (fun d => d) tyEnc (pScalar L l) := by
  intro A B a d e p ha hd hB hp
  have hB3 : ∀ x y z x' y' z', KB A (B ++ [.cells [.int .i64 x, .int .i64 y, .int .i64 z], .cells [.int .i64 x', .int .i64 y', .int .i64 z']]) := fun _ _ _ _ _ _ => hB.app (by simp)
  have h151 := fun C hC => q151 (L := L) hL (d := d) (w := maskS) (by decide) (A := A) (B := C) ha hC hp
  cases hs : see e (tk L a) maskS
  · obtain ⟨v, a1, e1, p1, g1, g2⟩ := q147 hL hK (w := u32S) (by decide) A _ a d e p ha trivial (hB3 0 0 0 0 0 l) hp
    simp only [hs, Bool.false_eq_true, if_false] at h151
    simp only [maskS] at h151
    simp only [u32S, uEnc] at g1
    refine ⟨⟨0, 0, l⟩, a1, e1, p1, evW_by (m153_eq _ _ _ _ _) ?_, ?_⟩
    · simp -implicitDefEqProofs [m153, hB, h151, g1, tyEnc, Ty.cells]
    · refine ⟨g2.lt, fun he hq => ?_, g2.bad⟩
      have g3 := g2.ok he hq
      subst he
      have hs' : isS (tk L a) maskS = false := by simpa [see] using hs
      cases hq2 : isS (tk L a) u32S <;> simp [Agree, pTake, pScalar, hs', hq2] at g3 ⊢ <;> exact g3
  · obtain ⟨he, hs2, ha1⟩ := see_lt hL hK ha hs
    simp only [hs, if_true] at h151
    simp only [maskS] at h151
    refine ⟨⟨1, 0, l⟩, a + 1, e, p, evW_by (m153_eq _ _ _ _ _) ?_, ?_⟩
    · simp -implicitDefEqProofs [m153, hB, h151, tyEnc, Ty.cells]
    · refine ⟨ha1, fun he hq => ?_, fun h => absurd he h⟩
      simp [Agree, pScalar, hs2, he, hq]
/-- What stands in an array's brackets. -/
theorem Step.many {a d e p a1 e1 p1 a2 e2 p2 a3 e3 p3 : Nat} {u : Unit} {t : Token} {u' : Unit} (s1 : Step L (pTake L [91]) a d e p u a1 e1 p1) (hp : e = 0 → p = 0)
    (s2 : Step L (pKind L 2) a1 d (if (tk L a1).num = 0 then (if e1 = 0 then 10 else e1) else e1) (if (tk L a1).num = 0 then (if e1 = 0 then (tk L a1).pos else p1) else p1) t a2 e2 p2)
    (s3 : Step L (pTake L [93]) a2 d e2 p2 u' a3 e3 p3) : Step L (pMany L) a d e p t.num a3 e3 p3 := by
  have hg1 := g_take (L := L) hK (w := [91])
  have hg2 := g_kind (L := L) hK (k := 2) (by omega)
  have hg3 := g_take (L := L) hK (w := [93])
  have ha : ∀ {v : Unit} {a' d' : Nat}, pTake L [91] a d = .ok v a' d' → d' = d := fun {v a' d'} h => by
    unfold pTake at h; split at h <;> cases h; rfl
  unfold pMany
  refine s1.bind (d1 := d) (fun v' a' d' h => ha h) (Step.here ?_)
  have hp1 := s1.zero hp
  by_cases hc : (tk L a1).kind = 2 ∧ (tk L a1).num = 0
  · rw [if_pos hc]
    by_cases he1 : e1 = 0
    · simp only [hc.2, he1, if_true] at s2
      obtain ⟨q1, q2, q3⟩ := s2.bad (by omega)
      obtain ⟨q4, q5, q6⟩ := s3.bad (by omega)
      refine ⟨s3.lt, fun _ _ => ?_, fun h => absurd he1 h⟩
      simp [Agree, pFail]; omega
    · simp only [hc.2, he1, if_true, if_false] at s2
      obtain ⟨q1, q2, q3⟩ := s2.bad (by omega)
      obtain ⟨q4, q5, q6⟩ := s3.bad (by omega)
      exact ⟨s3.lt, fun h => absurd h he1, fun _ => ⟨by omega, by omega, by omega⟩⟩
  · rw [if_neg hc]
    have hd2 : ∀ {v : Token} {a' d' : Nat}, pKind L 2 a1 d = .ok v a' d' → d' = d := fun {v a' d'} h => by
      unfold pKind at h; split at h <;> cases h; rfl
    have hd3 : ∀ {v : Unit} {a' d' : Nat}, pTake L [93] a2 d = .ok v a' d' → d' = d := fun {v a' d'} h => by
      unfold pTake at h; split at h <;> cases h; rfl
    by_cases hn : (tk L a1).num = 0
    · have hk2 : (tk L a1).kind ≠ 2 := fun h => hc ⟨h, hn⟩
      by_cases he1 : e1 = 0
      · simp only [hn, he1, if_true] at s2
        obtain ⟨q1, q2, q3⟩ := s2.bad (by omega)
        obtain ⟨q4, q5, q6⟩ := s3.bad (by omega)
        refine ⟨s3.lt, fun _ _ => ?_, fun h => absurd he1 h⟩
        simp [Agree, pm_bind, PM.bind, pKind, hk2]; omega
      · simp only [hn, he1, if_true, if_false] at s2
        obtain ⟨q1, q2, q3⟩ := s2.bad (by omega)
        obtain ⟨q4, q5, q6⟩ := s3.bad (by omega)
        exact ⟨s3.lt, fun h => absurd h he1, fun _ => ⟨by omega, by omega, by omega⟩⟩
    · simp only [hn, if_false] at s2
      exact s2.bind (d1 := d) (fun v' a' d' h => hd2 h) (s3.bind (d1 := d) (fun v' a' d' h => hd3 h) (Step.pure s3.lt))

/-- A type. -/
theorem q153 (l : Nat) : RC L (fun _ => True) 153 [.bool false, .int .i64 (l : Int)] (fun d => d) tyEnc (pKinds L l) := by
  intro A B a d e p ha hd hB hp
  have hBy : ∀ x y z x' y' z', KB A (B ++ [.cells [.int .i64 x, .int .i64 y, .int .i64 z], .cells [.int .i64 x', .int .i64 y', .int .i64 z']]) := fun _ _ _ _ _ _ => hB.app (by simp)
  have hTd : ∀ {w : List UInt8} {v : Unit} {a a' d' : Nat}, pTake L w a d = .ok v a' d' → d' = d := fun {w v a a' d'} h => by
    unfold pTake at h; split at h <;> cases h; rfl
  have h151 := fun w hw C hC => q151 (L := L) hL (d := d) (w := w) hw (A := A) (B := C) ha hC hp
  have hmk := h151 maskS (by decide)
  have hu8 := h151 [117, 56] (by decide)
  clear h151
  -- the array's length
  have many : ∀ (el a0 e0 p0 : Nat), a0 < L.length → (e0 = 0 → p0 = 0) → ∃ (n a' e' p' : Nat), Step L (pMany L) a0 d e0 p0 n a' e' p' ∧
      ∃ (t : Token) (a1 e1 p1 a2 e2 p2 : Nat), a1 < L.length ∧ n = t.num ∧
        KK 147 [.ptr A.length 0, .str [91]] (RQ A L a0 d e0 p0 (B ++ [.cells [.int .i64 0, .int .i64 0, .int .i64 0], .cells [.int .i64 (el : Int), .int .i64 0, .int .i64 (l : Int)]])) = some (.ret (.tuple []), RQ A L a1 d e1 p1 (B ++ [.cells [.int .i64 0, .int .i64 0, .int .i64 0], .cells [.int .i64 (el : Int), .int .i64 0, .int .i64 (l : Int)]])) ∧
        (e1 = 0 → p1 = 0) ∧
        KK 148 [.ptr A.length 0, .int .i64 2] (RQ A L a1 d (if (tk L a1).num = 0 then (if e1 = 0 then 10 else e1) else e1) (if (tk L a1).num = 0 then (if e1 = 0 then (tk L a1).pos else p1) else p1) (B ++ [.cells [.int .i64 0, .int .i64 0, .int .i64 0], .cells [.int .i64 (el : Int), .int .i64 0, .int .i64 (l : Int)]])) =
          some (.ret (.agg t.cells), RQ A L a2 d e2 p2 (B ++ [.cells [.int .i64 0, .int .i64 0, .int .i64 0], .cells [.int .i64 (el : Int), .int .i64 0, .int .i64 (l : Int)]])) ∧
        KK 147 [.ptr A.length 0, .str [93]] (RQ A L a2 d e2 p2 (B ++ [.cells [.int .i64 0, .int .i64 0, .int .i64 0], .cells [.int .i64 (el : Int), .int .i64 (t.num : Int), .int .i64 (l : Int)], .cells t.cells])) =
          some (.ret (.tuple []), RQ A L a' d e' p' (B ++ [.cells [.int .i64 0, .int .i64 0, .int .i64 0], .cells [.int .i64 (el : Int), .int .i64 (t.num : Int), .int .i64 (l : Int)], .cells t.cells])) := by
    intro el a0 e0 p0 ha0 hp0
    obtain ⟨u, a1, e1, p1, g1, s1⟩ := q147 hL hK (w := [91]) (by decide) A _ a0 d e0 p0 ha0 trivial (hBy 0 0 0 el 0 l) hp0
    have hp1 := s1.zero hp0
    have hpz : (if (tk L a1).num = 0 then (if e1 = 0 then 10 else e1) else e1) = 0 → (if (tk L a1).num = 0 then (if e1 = 0 then (tk L a1).pos else p1) else p1) = 0 := by
      split
      · split
        · intro h; omega
        · intro h; exact hp1 h
      · exact hp1
    obtain ⟨t, a2, e2, p2, g2, s2⟩ := q148 hL hK (k := 2) (by decide) A _ a1 d _ _ s1.lt trivial (hBy 0 0 0 el 0 l) hpz
    have hp2 := s2.zero hpz
    have hB3 : KB A (B ++ [.cells [.int .i64 0, .int .i64 0, .int .i64 0], .cells [.int .i64 (el : Int), .int .i64 (t.num : Int), .int .i64 (l : Int)], .cells t.cells]) := hB.app (by simp)
    obtain ⟨u', a3, e3, p3, g3, s3⟩ := q147 hL hK (w := [93]) (by decide) A _ a2 d e2 p2 s2.lt trivial hB3 hp2
    exact ⟨t.num, a3, e3, p3, Step.many hL hK s1 hp0 s2 s3, t, a1, e1, p1, a2, e2, p2, s1.lt, rfl, g1, hp1, g2, g3⟩
  have cells3 : ∀ x y z : Int, [AVal.int .i64 x, .int .i64 y, .int .i64 z] = [AVal.int .i64 x, .int .i64 y, .int .i64 z] := fun _ _ _ => rfl
  cases hm : see e (tk L a) maskS
  · simp only [hm, Bool.false_eq_true, if_false] at hmk
    simp only [maskS] at hmk
    have hmf : e = 0 → isS (tk L a) maskS = false := fun he => by subst he; simpa [see] using hm
    cases hu : see e (tk L a) [117, 56]
    · simp only [hu, Bool.false_eq_true, if_false] at hu8
      have huf : e = 0 → isS (tk L a) [117, 56] = false := fun he => by subst he; simpa [see] using hu
      obtain ⟨u, a1, e1, p1, g1, s1⟩ := q147 hL hK (w := u32S) (by decide) A _ a d e p ha trivial (hBy 0 0 0 0 0 l) hp
      have hp1 := s1.zero hp
      simp only [u32S, uEnc] at g1
      have h149 := fun C hC => q149 (L := L) (d := d) (w := [91]) (by decide) (A := A) (B := C) s1.lt hC hp1
      have scal : ∀ {β : Type} {f : Ty → PM β} {w : β} {a2 e2 p2 : Nat}, Step L (f ⟨0, 0, l⟩) a1 d e1 p1 w a2 e2 p2 → Step L (pScalar L l >>= f) a d e p w a2 e2 p2 := by
        intro β f w a2 e2 p2 t
        refine ⟨t.lt, fun he hq => ?_, fun he => ?_⟩
        · have g3 := s1.ok he hq
          simp only [pm_bind, PM.bind, pScalar, hmf he, Bool.false_eq_true, if_false]
          cases hq2 : isS (tk L a) u32S
          · simp only [Agree, pTake, hq2, Bool.false_eq_true, if_false] at g3
            obtain ⟨rfl, rfl, h0⟩ := g3
            obtain ⟨_, q2, q3⟩ := t.bad (by omega)
            simp only [Bool.false_eq_true, if_false, Agree]
            exact ⟨q2, q3, h0⟩
          · simp only [Agree, pTake, hq2, if_true] at g3
            obtain ⟨_, rfl, rfl, rfl⟩ := g3
            simp only [if_true]
            exact t.ok rfl rfl
        · obtain ⟨rfl, rfl, rfl⟩ := s1.bad he
          exact t.bad he
      have fin : ∀ {v : Ty} {a2 e2 p2 : Nat}, Step L (pIs L [91] >>= fun b => if b = true then (pMany L >>= fun n => pure { elem := 0, len := n, label := l }) else pure ⟨0, 0, l⟩ : PM Ty) a1 d e1 p1 v a2 e2 p2 → Step L (pKinds L l) a d e p v a2 e2 p2 := by
        intro v a2 e2 p2 t
        unfold pKinds
        refine Step.maybe hL hK ?_
        simp only [hu, Bool.false_eq_true, if_false]
        refine scal ?_
        simp only [if_true]
        exact t
      cases hb : see e1 (tk L a1) [91]
      · rw [hb] at h149
        refine ⟨⟨0, 0, l⟩, a1, e1, p1, evW_by (m153_eq _ _ _ _ _) ?_, ?_⟩
        · simp -implicitDefEqProofs [m153, hB, hmk, hu8, g1, h149, tyEnc, Ty.cells]
        · refine fin (Step.sees hL hK ?_)
          simp only [hb, Bool.false_eq_true, if_false]
          exact Step.pure s1.lt
      · rw [hb] at h149
        obtain ⟨n, a', e', p', sm, t, b1, f1, r1, b2, f2, r2, hb1, rfl, k1, hr1, k2, k3⟩ := many 0 a1 e1 p1 s1.lt hp1
        refine ⟨⟨0, t.num, l⟩, a', e', p', evW_by (m153_eq _ _ _ _ _) ?_, ?_⟩
        · have h185 := fun C hC => q185 (L := L) (a := b1) (d := d) (e := f1) (p := r1) (A := A) (B := C) 10 hb1 hC hr1
          simp only [Int.cast_ofNat_Int, Token.cells] at h185 k1 k2 k3
          by_cases hn : (tk L b1).num = 0
          · simp only [hn, if_true] at k2
            simp -implicitDefEqProofs [m153, hB, hmk, hu8, g1, h149, hb1, k1, h185, k2, k3, hn, tyEnc, Ty.cells]
          · have hn' : ¬ ((tk L b1).num : Int) = 0 := by omega
            simp only [hn, if_false] at k2
            simp -implicitDefEqProofs [m153, hB, hmk, hu8, g1, h149, hb1, k1, h185, k2, k3, hn, hn', tyEnc, Ty.cells]
        · refine fin (Step.sees hL hK ?_)
          simp only [hb, if_true]
          refine sm.bind (d1 := d) (fun v' a' d' h => ?_) (Step.pure sm.lt)
          exact (g_many hK _ _ _ _ _ h s1.lt).2.2
    · obtain ⟨he, hs2, ha1⟩ := see_lt hL hK ha hu
      simp only [hu, if_true] at hu8
      obtain ⟨n, a', e', p', sm, t, b1, f1, r1, b2, f2, r2, hb1, rfl, k1, hr1, k2, k3⟩ := many 2 (a + 1) e p ha1 hp
      refine ⟨⟨2, t.num, l⟩, a', e', p', evW_by (m153_eq _ _ _ _ _) ?_, ?_⟩
      · have h185 := fun C hC => q185 (L := L) (a := b1) (d := d) (e := f1) (p := r1) (A := A) (B := C) 10 hb1 hC hr1
        simp only [Int.cast_ofNat_Int, Token.cells] at h185 k1 k2 k3
        by_cases hn : (tk L b1).num = 0
        · simp only [hn, if_true] at k2
          simp -implicitDefEqProofs [m153, hB, hmk, hu8, hb1, k1, h185, k2, k3, hn, tyEnc, Ty.cells]
        · have hn' : ¬ ((tk L b1).num : Int) = 0 := by omega
          simp only [hn, if_false] at k2
          simp -implicitDefEqProofs [m153, hB, hmk, hu8, hb1, k1, h185, k2, k3, hn, hn', tyEnc, Ty.cells]
      · unfold pKinds
        refine Step.maybe hL hK ?_
        simp only [hu, if_true]
        refine sm.bind (d1 := d) (fun v' a' d' h => ?_) (Step.pure sm.lt)
        exact (g_many hK _ _ _ _ _ h ha1).2.2
  · obtain ⟨he, hs2, ha1⟩ := see_lt hL hK ha hm
    simp only [hm, if_true] at hmk
    simp only [maskS] at hmk
    have huf : isS (tk L a) [117, 56] = false := by
      simp only [isS, Bool.and_eq_true, decide_eq_true_eq, maskS] at hs2
      have h1 : (tk L a).text = [109, 97, 115, 107] := of_decide_eq_true hs2.2
      unfold isS
      rw [h1]
      simp
    refine ⟨⟨1, 0, l⟩, a + 1, e, p, evW_by (m153_eq _ _ _ _ _) ?_, ?_⟩
    · simp -implicitDefEqProofs [m153, hB, hmk, tyEnc, Ty.cells]
    · refine ⟨ha1, fun he hq => ?_, fun h => absurd he h⟩
      simp [Agree, pKinds, pm_bind, PM.bind, pMaybe, pScalar, huf, hs2, he, hq, pm_pure]
end
end Go.Proofs.YtkeoalhglkfbkaaDoor

/-
  The document's parser: parameters, and how tight a sign binds, by the evaluator. No conditions.
-/
namespace Go.Proofs.YtkeoalhglkfbkaaDoor
open Go Hk

theorem PGood.dep {L : List Token} {α : Type} {s : Nat} {k : Nat → Nat} {x : PM α} (g : PGood L s k x) {a d : Nat} (ha : a < L.length) : ∀ v a' d', x a d = .ok v a' d' → d' = k d := fun _ _ _ h => (g _ _ _ _ _ h ha).2.2

theorem see_step {L : List Token} (hK : TokOk L) {a e : Nat} {w : List UInt8} (ha : a < L.length) : (if see e (tk L a) w = true then a + 1 else a) < L.length := by
  split
  · rename_i h
    simp only [see, Bool.and_eq_true, decide_eq_true_eq] at h
    exact isS_lt hK ha h.2
  · exact ha

section
variable {L : List Token} (hL : L.length ≤ 131072) (hK : TokOk L)
include hL hK
theorem q150 : RC L (fun _ => True) 150 [] (fun d => d) (fun x : XP => .agg x.cells) (pParam L) := by
  intro A B a d e p ha hd hB hp
  have h151 := fun C hC => q151 (L := L) hL (d := d) (w := [111, 117, 116]) (by decide) (A := A) (B := C) ha hC hp
  have ha0 := see_step hK (e := e) (w := [111, 117, 116]) ha
  obtain ⟨b, hb⟩ : ∃ b, b = see e (tk L a) [111, 117, 116] := ⟨_, rfl⟩
  obtain ⟨a0, hae⟩ : ∃ a0, a0 = if see e (tk L a) [111, 117, 116] = true then a + 1 else a := ⟨_, rfl⟩
  rw [← hae] at ha0
  simp only [← hb] at hae
  simp only [← hb, ← hae] at h151
  have k6 : ∀ (x z1 z2 z3 : Int) (y : List UInt8) (f : Bool) (x' z1' z2' z3' : Int) (y' : List UInt8) (f' : Bool), KB A (B ++ [.cells [.int .i64 x, .str y, .int .i64 z1, .int .i64 z2, .int .i64 z3, .bool f], .cells [.int .i64 x', .str y', .int .i64 z1', .int .i64 z2', .int .i64 z3', .bool f']]) := fun _ _ _ _ _ _ _ _ _ _ _ _ => hB.app (by simp)
  obtain ⟨l, a1, e1, p1, g1, s1⟩ := q152 hL hK A _ a0 d e p ha0 trivial (k6 0 0 0 0 [] false 0 0 0 0 [] b) hp
  have hp1 := s1.zero hp
  obtain ⟨n, a2, e2, p2, g2, s2⟩ := q148 hL hK (k := 1) (by decide) A _ a1 d e1 p1 s1.lt trivial (k6 0 0 0 0 [] false 0 0 0 0 [] b) hp1
  have hp2 := s2.zero hp1
  have k64 : KB A (B ++ [.cells [.int .i64 0, .str [], .int .i64 0, .int .i64 0, .int .i64 0, .bool false], .cells [.int .i64 (n.pos : Int), .str n.text, .int .i64 0, .int .i64 0, .int .i64 0, .bool b], .cells [.int .i64 (n.kind : Int), .int .i64 (n.pos : Int), .int .i64 (n.num : Int), .str n.text]]) := hB.app (by simp)
  obtain ⟨u, a3, e3, p3, g3, s3⟩ := q147 hL hK (w := [58]) (by decide) A _ a2 d e2 p2 s2.lt trivial k64 hp2
  have hp3 := s3.zero hp2
  obtain ⟨t, a4, e4, p4, g4, s4⟩ := q153 hL hK l A _ a3 d e3 p3 s3.lt trivial k64 hp3
  refine ⟨⟨n.pos, n.text, t, b⟩, a4, e4, p4, evW_by (m150_eq _ _ _) ?_, ?_⟩
  · simp only [Int.cast_ofNat_Int, tEnc, Token.cells, uEnc, tyEnc, Ty.cells] at g1 g2 g3 g4
    simp -implicitDefEqProofs [m150, hB, h151, g1, g2, g3, g4, XP.cells]
  · unfold pParam
    refine Step.maybe hL hK ?_
    rw [← hb, ← hae]
    exact s1.bind ((g_label hK).dep ha0) (s2.bind ((g_kind hK (by omega)).dep s1.lt) (s3.bind ((g_take hK).dep s2.lt) (s4.bind ((g_kinds hK).dep s3.lt) (Step.pure s4.lt))))
end

/-! ### How tight a sign binds -/
def tightT : List (List UInt8 × Nat × Nat) := [([61, 61], 17, 1), ([33, 61], 18, 1), ([60], 19, 1), ([60, 61], 20, 1), ([62], 21, 1), ([62, 61], 22, 1), ([124], 12, 2), ([94], 13, 3), ([38], 11, 4), ([60, 60], 14, 5), ([62, 62], 15, 5), ([43], 8, 6), ([45], 9, 6), ([42], 10, 7)]
def lookT (w : List UInt8) : List (List UInt8 × Nat × Nat) → Option (Nat × Nat)
  | [] => none
  | (x, k, t) :: r => if x = w then some (t, k) else lookT w r
theorem tight_look (w : List UInt8) : tightS w = (lookT w tightT).getD (0, 0) := by
  by_cases h0 : w = [61, 61]
  · rw [h0]; decide
  by_cases h1 : w = [33, 61]
  · rw [h1]; decide
  by_cases h2 : w = [60]
  · rw [h2]; decide
  by_cases h3 : w = [60, 61]
  · rw [h3]; decide
  by_cases h4 : w = [62]
  · rw [h4]; decide
  by_cases h5 : w = [62, 61]
  · rw [h5]; decide
  by_cases h6 : w = [124]
  · rw [h6]; decide
  by_cases h7 : w = [94]
  · rw [h7]; decide
  by_cases h8 : w = [38]
  · rw [h8]; decide
  by_cases h9 : w = [60, 60]
  · rw [h9]; decide
  by_cases h10 : w = [62, 62]
  · rw [h10]; decide
  by_cases h11 : w = [43]
  · rw [h11]; decide
  by_cases h12 : w = [45]
  · rw [h12]; decide
  by_cases h13 : w = [42]
  · rw [h13]; decide
  have e1 : levelOf w = none := by
    unfold levelOf
    rw [if_neg h0, if_neg h1, if_neg h2, if_neg h3, if_neg h4, if_neg h5, if_neg h6, if_neg h7, if_neg h8, if_neg h9, if_neg h10, if_neg h11, if_neg h12, if_neg h13]
  have e2 : lookT w tightT = none := by
    unfold tightT
    simp only [lookT]
    rw [if_neg (Ne.symm h0), if_neg (Ne.symm h1), if_neg (Ne.symm h2), if_neg (Ne.symm h3), if_neg (Ne.symm h4), if_neg (Ne.symm h5), if_neg (Ne.symm h6), if_neg (Ne.symm h7), if_neg (Ne.symm h8), if_neg (Ne.symm h9), if_neg (Ne.symm h10), if_neg (Ne.symm h11), if_neg (Ne.symm h12), if_neg (Ne.symm h13)]
  unfold tightS
  rw [e1, e2]; rfl

theorem m253_loop (w : List UInt8) (T : List (List UInt8 × Nat × Nat)) (hT : T.length ≤ 100) (h : Heap) (hh : trunc 3 h = some h) : ∀ (n i : Nat), T.length < i + n → i ≤ T.length →
    ∃ j : Int, lpW (m253_l0 KK 3) ([.str w, .int .i64 0, .int .i64 0, .slice (T.map fun x => [.str x.1]) (.own 0), .slice (T.map fun x => [.int .i64 (x.2.1 : Int)]) (.own 1), .slice (T.map fun x => [.int .i64 (x.2.2 : Int)]) (.own 2), .int .i64 (i : Int)], h) =
      some (match lookT w (T.drop i) with
        | some (t, k) => (.ret, [.str w, .int .i64 (t : Nat), .int .i64 (k : Nat), .slice (T.map fun x => [.str x.1]) (.own 0), .slice (T.map fun x => [.int .i64 (x.2.1 : Int)]) (.own 1), .slice (T.map fun x => [.int .i64 (x.2.2 : Int)]) (.own 2), .int .i64 j], h)
        | none => (.exit 0, [.str w, .int .i64 0, .int .i64 0, .slice (T.map fun x => [.str x.1]) (.own 0), .slice (T.map fun x => [.int .i64 (x.2.1 : Int)]) (.own 1), .slice (T.map fun x => [.int .i64 (x.2.2 : Int)]) (.own 2), .int .i64 j], h)) := by
  intro n
  induction n with
  | zero => intro i a1 a2; omega
  | succ n ih =>
    intro i a1 a2
    rw [lpW_step]
    by_cases hi : i < T.length
    · have hi' : (i : Int) < T.length := by omega
      have hx : T[i]? = some T[i] := List.getElem?_eq_getElem hi
      have w1 := wrapS (a := i) (by omega)
      rw [List.drop_eq_getElem_cons hi]
      generalize T[i] = y at *
      obtain ⟨x, k, t⟩ := y
      by_cases hw : x = w
      · refine ⟨i, ?_⟩
        subst hw
        simp -implicitDefEqProofs [m253_l0, hi', hx, endR, hh, lookT]
      · obtain ⟨j, hj⟩ := ih (i + 1) (by omega) hi
        refine ⟨j, ?_⟩
        simp only [Int.natCast_add, Int.cast_ofNat_Int] at hj
        have hl : lookT w ((x, k, t) :: T.drop (i + 1)) = lookT w (T.drop (i + 1)) := by rw [lookT, if_neg hw]
        rw [hl, ← hj]
        simp -implicitDefEqProofs [m253_l0, hi', hx, hw, endR, hh, w1]
    · refine ⟨i, ?_⟩
      have : T.drop i = [] := List.drop_eq_nil_of_le (by omega)
      rw [this]
      have hi' : ¬ (i : Int) < T.length := by omega
      simp -implicitDefEqProofs [m253_l0, hi', endR, hh, lookT]

theorem lit253a {h : Heap} : abuildSlice 14 1 [.str []] [(0, (.str [61, 61])), (1, (.str [33, 61])), (2, (.str [60])), (3, (.str [60, 61])), (4, (.str [62])), (5, (.str [62, 61])), (6, (.str [124])), (7, (.str [94])), (8, (.str [38])), (9, (.str [60, 60])), (10, (.str [62, 62])), (11, (.str [43])), (12, (.str [45])), (13, (.str [42]))] h = some (.slice [[(.str [61, 61])], [(.str [33, 61])], [(.str [60])], [(.str [60, 61])], [(.str [62])], [(.str [62, 61])], [(.str [124])], [(.str [94])], [(.str [38])], [(.str [60, 60])], [(.str [62, 62])], [(.str [43])], [(.str [45])], [(.str [42])]] (.own h.length), h ++ [.front 14 1]) := (rfl)
theorem lit253b {h : Heap} : abuildSlice 14 1 [.int .i64 0] [(0, (.int .i64 17)), (1, (.int .i64 18)), (2, (.int .i64 19)), (3, (.int .i64 20)), (4, (.int .i64 21)), (5, (.int .i64 22)), (6, (.int .i64 12)), (7, (.int .i64 13)), (8, (.int .i64 11)), (9, (.int .i64 14)), (10, (.int .i64 15)), (11, (.int .i64 8)), (12, (.int .i64 9)), (13, (.int .i64 10))] h = some (.slice [[(.int .i64 17)], [(.int .i64 18)], [(.int .i64 19)], [(.int .i64 20)], [(.int .i64 21)], [(.int .i64 22)], [(.int .i64 12)], [(.int .i64 13)], [(.int .i64 11)], [(.int .i64 14)], [(.int .i64 15)], [(.int .i64 8)], [(.int .i64 9)], [(.int .i64 10)]] (.own h.length), h ++ [.front 14 1]) := (rfl)
theorem lit253c {h : Heap} : abuildSlice 14 1 [.int .i64 0] [(0, (.int .i64 1)), (1, (.int .i64 1)), (2, (.int .i64 1)), (3, (.int .i64 1)), (4, (.int .i64 1)), (5, (.int .i64 1)), (6, (.int .i64 2)), (7, (.int .i64 3)), (8, (.int .i64 4)), (9, (.int .i64 5)), (10, (.int .i64 5)), (11, (.int .i64 6)), (12, (.int .i64 6)), (13, (.int .i64 7))] h = some (.slice [[(.int .i64 1)], [(.int .i64 1)], [(.int .i64 1)], [(.int .i64 1)], [(.int .i64 1)], [(.int .i64 1)], [(.int .i64 2)], [(.int .i64 3)], [(.int .i64 4)], [(.int .i64 5)], [(.int .i64 5)], [(.int .i64 6)], [(.int .i64 6)], [(.int .i64 7)]] (.own h.length), h ++ [.front 14 1]) := (rfl)
theorem q253 (w : List UInt8) (h : Heap) : KK 253 [.str w] h = some (.ret (.tuple [.int .i64 ((tightS w).1 : Int), .int .i64 ((tightS w).2 : Int)]), h) := by
  refine callP_pure rfl rfl (evW_by (m253_eq _ _ _) ?_)
  by_cases hw : w = []
  · subst hw
    have : tightS [] = (0, 0) := by decide
    simp -implicitDefEqProofs [m253, this, finR_zero]
  · obtain ⟨j, hj⟩ := m253_loop w tightT (by decide) [.front 14 1, .front 14 1, .front 14 1] (by simp [trunc]) 15 0 (by decide) (Nat.zero_le _)
    have hl := tight_look w
    rw [List.drop_zero] at hj
    cases hk : lookT w tightT with
    | none =>
      rw [hk] at hl hj
      simp only [tightT, List.map_cons, List.map_nil, Int.cast_ofNat_Int] at hj
      simp -implicitDefEqProofs [m253, hw, lit253a, lit253b, lit253c, hj, hl, finR_zero]
    | some x =>
      obtain ⟨t, k⟩ := x
      rw [hk] at hl hj
      simp only [tightT, List.map_cons, List.map_nil, Int.cast_ofNat_Int] at hj
      simp -implicitDefEqProofs [m253, hw, lit253a, lit253b, lit253c, hj, hl, finR_zero]
end Go.Proofs.YtkeoalhglkfbkaaDoor

/-
  The document's parser: signs between expressions, by the evaluator. No conditions.
-/
namespace Go.Proofs.YtkeoalhglkfbkaaDoor
open Go Hk

def xe0 : XE := .mk 0 0 0 [] []

/-- A function on expressions: so many nests may be left. -/
def RCE (L : List Token) (n : Nat) (f : Nat) (args : List AVal) {α : Type} (enc : α → AVal) (x : PM α) : Prop :=
  ∀ A B a d e p, a < L.length → n + d = 65 → (e = 0 → 1 ≤ n) → KB A B → (e = 0 → p = 0) → ∃ v a' e' p', KK f (.ptr A.length 0 :: args) (RQ A L a d e p B) = some (.ret (enc v), RQ A L a' d e' p' B) ∧ Step L x a d e p v a' e' p'
/-- The same where all went well so far. -/
def ROE (L : List Token) (n : Nat) (f : Nat) (args : List AVal) {α : Type} (enc : α → AVal) (x : PM α) : Prop :=
  ∀ A B a d, a < L.length → n + d = 65 → 1 ≤ n → KB A B → ∃ v a' e' p', KK f (.ptr A.length 0 :: args) (RQ A L a d 0 0 B) = some (.ret (enc v), RQ A L a' d e' p' B) ∧ Step L x a d 0 0 v a' e' p'

theorem RCE.of {L : List Token} {n f : Nat} {args : List AVal} {α : Type} {enc : α → AVal} {x : PM α} {v0 : α} (h1 : ROE L n f args enc x) (h2 : RBad L (fun d => d ≤ 65) f args (fun d => d) (enc v0)) : RCE L n f args enc x := by
  intro A B a d e p ha hn he hB hp
  by_cases h0 : e = 0
  · subst h0
    have := hp rfl
    subst this
    exact h1 A B a d ha hn (he rfl) hB
  · exact ⟨v0, a, e, p, h2 A B a d e p ha (by show d ≤ 65; omega) hB h0, Step.stay ha h0⟩
theorem Step.congr {L : List Token} {α : Type} {x y : PM α} {a d e p a1 e1 p1 : Nat} {v : α} (s : Step L x a d e p v a1 e1 p1) (h : x a d = y a d) : Step L y a d e p v a1 e1 p1 := ⟨s.lt, fun he hp => by rw [← h]; exact s.ok he hp, s.bad⟩

section
variable {A B C : List ABlk} {L : List Token} {a d er p k : Nat} {x y : XE} {t : Tok}
theorem RQ_pushL (l : List XE) (hc : C[k]? = some (.front l.length (fsz l.length 5))) (hl : l.length ≤ 200000) :
    aappend 5 64 (RQ A L a d er p (B ++ C)) (.slice (l.map XE.cells) (.own (HN A B + k))) (.slice [x.cells] t) = some (.slice ((l ++ [x]).map XE.cells) (.own (HN A B + k)), RQ A L a d er p (B ++ C.set k (.front (l.length + 1) 5))) := by
  have := RQ_app1 (A := A) (B := B) (L := L) (a := a) (d := d) (er := er) (p := p) (C := C) (k := k) (rows := l.map XE.cells) (new := [x.cells]) (sz := 5) (by_ := 64) (sz' := fsz l.length 5) (t := t)
    (by rw [List.length_map]; exact hc) (by rw [List.length_map]; exact fsz_or _ _) (by simp) (by simp) (by simp; omega) (by simp; omega)
  simpa using this
theorem RQ_push0 (hc : C[k]? = some (.front 0 0)) : aappend 5 64 (RQ A L a d er p (B ++ C)) (.slice [] (.own (HN A B + k))) (.slice [x.cells] t) = some (.slice [x.cells] (.own (HN A B + k)), RQ A L a d er p (B ++ C.set k (.front 1 5))) := by
  have := RQ_pushL (A := A) (B := B) (L := L) (a := a) (d := d) (er := er) (p := p) (C := C) (k := k) (x := x) (t := t) [] (by simpa [fsz] using hc) (by simp)
  simpa using this
theorem RQ_push1 (hc : C[k]? = some (.front 1 5)) : aappend 5 64 (RQ A L a d er p (B ++ C)) (.slice [y.cells] (.own (HN A B + k))) (.slice [x.cells] t) = some (.slice [y.cells, x.cells] (.own (HN A B + k)), RQ A L a d er p (B ++ C.set k (.front 2 5))) := by
  have := RQ_pushL (A := A) (B := B) (L := L) (a := a) (d := d) (er := er) (p := p) (C := C) (k := k) (x := x) (t := t) [y] (by simpa [fsz] using hc) (by simp)
  simpa using this
end

/-- What an expression's function has: its answer's block, and the expression so far. -/
def hx (A B : List ABlk) (x : XE) : List ABlk := [.cells [.int .i64 0, .int .i64 0, .int .i64 0, .str [], .slice [] (.own (HN A B + 1))], .front 0 0, .cells x.cells, .front 0 0]
def hx2 (x : XE) : List ABlk := [.cells x.cells, .front 0 0, .cells x.cells, .front 0 0]

section
variable {L : List Token} (hL : L.length ≤ 131072) (hK : TokOk L) (hW : WordOk L)
include hL hK

omit hL hK in
theorem hx_KB {A B : List ABlk} {x : XE} (hB : KB A B) : KB A (B ++ hx A B x) := hB.app (by simp [hx])
omit hL hK in
theorem hx_trunc {A B C : List ABlk} {x : XE} {a d e p : Nat} (hB : KB A B) : trunc (HN A B + 4) (RQ A L a d e p (B ++ (hx A B x ++ C))) = some (RQ A L a d e p (B ++ hx A B x)) := by
  have := RQ_truncK (L := L) (a := a) (d := d) (er := e) (p := p) (A := A) (B := B) (C := hx A B x ++ C) (k := 4) (by simpa [hx] using hx_KB (x := x) hB) (by simp [hx])
  simpa [hx] using this
omit hL hK in
theorem hx_trunc0 {A B : List ABlk} {x : XE} {a d e p : Nat} (hB : KB A B) : trunc (HN A B + 4) (RQ A L a d e p (B ++ hx A B x)) = some (RQ A L a d e p (B ++ hx A B x)) := by
  have := hx_trunc (L := L) (C := []) (x := x) (a := a) (d := d) (e := e) (p := p) hB
  simpa using this
omit hL hK in
theorem hx2_trunc {A B : List ABlk} {x : XE} {a d e p : Nat} (hB : KB A B) : trunc (HN A B + 4) (RQ A L a d e p (B ++ hx2 x)) = some (RQ A L a d e p (B ++ hx2 x)) := by
  have := RQ_truncK (L := L) (a := a) (d := d) (er := e) (p := p) (A := A) (B := B) (C := hx2 x) (k := 4) (by simpa [hx2] using hB.app (by simp)) (by simp [hx2])
  simpa [hx2] using this

omit hL hK in
theorem hx_truncO {A B C : List ABlk} {a d e p i : Nat} {k1 k2 k3 : Int} {nm : List UInt8} {rows : List (List AVal)} (hB : KB A B) (hi : 4 ≤ i) :
    trunc (HN A B + 4) (RQ A L a d e p (B ++ (.cells [.int .i64 0, .int .i64 0, .int .i64 0, .str [], .slice [] (.own (HN A B + 1))] :: .front 0 0 :: .cells [.int .i64 k1, .int .i64 k2, .int .i64 k3, .str nm, .slice rows (.own (HN A B + i))] :: .front 0 0 :: C))) =
      some (RQ A L a d e p (B ++ [.cells [.int .i64 0, .int .i64 0, .int .i64 0, .str [], .slice [] (.own (HN A B + 1))], .front 0 0, .cells [.int .i64 k1, .int .i64 k2, .int .i64 k3, .str nm, .slice rows .no], .front 0 0])) := by
  have h1 : ¬ HN A B + i < HN A B + 4 := by omega
  have h2 : HN A B + 1 < HN A B + 4 := by omega
  exact RQ_truncG (C1 := [.cells [.int .i64 0, .int .i64 0, .int .i64 0, .str [], .slice [] (.own (HN A B + 1))], .front 0 0, .cells [.int .i64 k1, .int .i64 k2, .int .i64 k3, .str nm, .slice rows (.own (HN A B + i))], .front 0 0]) (C2 := C) hB rfl (by simp [h1, h2])

omit hL hK in
theorem m233_bad {A B : List ABlk} {x : XE} {a d e p t m : Nat} {c : Bool} (hB : KB A B) (he : e ≠ 0) :
    m233_l0 KK (HN A B + 4) ([.ptr A.length 0, .int .i64 (t : Int), .ptr (HN A B) 0, .ptr (HN A B + 2) 0, .bool c, .int .i64 (m : Int)], RQ A L a d e p (B ++ hx A B x)) =
      some (.exit 0, [.ptr A.length 0, .int .i64 (t : Int), .ptr (HN A B) 0, .ptr (HN A B + 2) 0, .bool c, .int .i64 (m : Int)], RQ A L a d e p (B ++ hx A B x)) := by
  have he' : ¬ (e : Int) = 0 := by omega
  have ht := hx_trunc0 (L := L) (x := x) (a := a) (d := d) (e := e) (p := p) hB
  have q1 : ∀ h, AVal.san1 (HN A B + 4) h (.ptr A.length 0) = .ptr A.length 0 := fun h => san1_ptr (by simp [HN]; omega)
  have q2 : ∀ h, AVal.san1 (HN A B + 4) h (.ptr (HN A B) 0) = .ptr (HN A B) 0 := fun h => san1_ptr (by omega)
  have q3 : ∀ h, AVal.san1 (HN A B + 4) h (.ptr (HN A B + 2) 0) = .ptr (HN A B + 2) 0 := fun h => san1_ptr (by omega)
  simp -implicitDefEqProofs [m233_l0, he, he', endR, ht, q1, q2, q3]

omit hL hK in
/-- Where it stops. -/
theorem m233_stop {A B : List ABlk} {x : XE} {a d t m : Nat} {c : Bool} (ha : a < L.length) (hB : KB A B) (hs : (tightS (textS (tk L a))).1 ≤ t ∨ m < (tightS (textS (tk L a))).1 ∨ ((tightS (textS (tk L a))).1 = 1 ∧ c = true)) :
    m233_l0 KK (HN A B + 4) ([.ptr A.length 0, .int .i64 (t : Int), .ptr (HN A B) 0, .ptr (HN A B + 2) 0, .bool c, .int .i64 (m : Int)], RQ A L a d 0 0 (B ++ hx A B x)) =
      some (.ret, [.ptr A.length 0, .int .i64 (t : Int), .ptr (HN A B) 0, .ptr (HN A B + 2) 0, .bool c, .int .i64 (m : Int)], RQ A L a d 0 0 (B ++ hx2 x)) := by
  have h184 := r184 (L := L) (d := d) (e := 0) (p := 0) ha (hx_KB (x := x) hB)
  have h253 := q253 (textS (tk L a))
  have ht := hx2_trunc (L := L) (x := x) (a := a) (d := d) (e := 0) (p := 0) hB
  have q1 : ∀ h, AVal.san1 (HN A B + 4) h (.ptr A.length 0) = .ptr A.length 0 := fun h => san1_ptr (by simp [HN]; omega)
  have q2 : ∀ h, AVal.san1 (HN A B + 4) h (.ptr (HN A B) 0) = .ptr (HN A B) 0 := fun h => san1_ptr (by omega)
  have q3 : ∀ h, AVal.san1 (HN A B + 4) h (.ptr (HN A B + 2) 0) = .ptr (HN A B + 2) 0 := fun h => san1_ptr (by omega)
  generalize (tightS (textS (tk L a))).1 = n at *
  generalize (tightS (textS (tk L a))).2 = k at *
  simp only [hx, hx2] at h184 ht ⊢
  by_cases h1 : n ≤ t
  · have h1' : (n : Int) ≤ t := by omega
    simp -implicitDefEqProofs [m233_l0, ha, hB, h184, h253, h1, h1', endR, ht, q1, q2, q3]
  · have h1' : ¬ (n : Int) ≤ t := by omega
    by_cases h2 : m < n
    · have h2' : (m : Int) < n := by omega
      simp -implicitDefEqProofs [m233_l0, ha, hB, h184, h253, h1, h1', h2, h2', endR, ht, q1, q2, q3]
    · have h2' : ¬ (m : Int) < n := by omega
      obtain ⟨h3, h4⟩ : n = 1 ∧ c = true := by rcases hs with h | h | h; exact absurd h h1; exact absurd h h2; exact h
      subst h3; subst h4
      have h1' : ¬ (1 : Int) ≤ t := by omega
      have h2' : ¬ (m : Int) < 1 := by omega
      simp -implicitDefEqProofs [m233_l0, ha, hB, h184, h253, h1, h1', h2, h2', endR, ht, q1, q2, q3]

/-- Where a sign of a shift stands. -/
theorem m233_five {A B : List ABlk} {x : XE} {a d t m n kd : Nat} {c : Bool} (ha : a < L.length) (hB : KB A B) (hn : n = (tightS (textS (tk L a))).1) (hkd : kd = (tightS (textS (tk L a))).2) (h1 : ¬ n ≤ t) (h2 : ¬ m < n) (h5 : n = 5)
    (ha1 : a + 1 < L.length) : ∃ v a2 e2 p2, Step L (pKind L 2) (a + 1) d 0 0 v a2 e2 p2 ∧
    m233_l0 KK (HN A B + 4) ([.ptr A.length 0, .int .i64 (t : Int), .ptr (HN A B) 0, .ptr (HN A B + 2) 0, .bool c, .int .i64 (m : Int)], RQ A L a d 0 0 (B ++ hx A B x)) =
      some (.normal, [.ptr A.length 0, .int .i64 (t : Int), .ptr (HN A B) 0, .ptr (HN A B + 2) 0, .bool (c || decide (n = 1)), .int .i64 (n : Int)], RQ A L a2 d e2 p2 (B ++ hx A B (.mk kd (tk L a).pos v.num [] [x]))) := by
  have h184 := r184 (L := L) (d := d) (e := 0) (p := 0) ha (hx_KB (x := x) hB)
  have h253 := q253 (textS (tk L a))
  have w1 := wrapS (a := a) (by omega)
  have q1 : ∀ h, AVal.san1 (HN A B + 4) h (.ptr A.length 0) = .ptr A.length 0 := fun h => san1_ptr (by simp [HN]; omega)
  have q2 : ∀ h, AVal.san1 (HN A B + 4) h (.ptr (HN A B) 0) = .ptr (HN A B) 0 := fun h => san1_ptr (by omega)
  have q3 : ∀ h, AVal.san1 (HN A B + 4) h (.ptr (HN A B + 2) 0) = .ptr (HN A B + 2) 0 := fun h => san1_ptr (by omega)
  have hC : KB A (B ++ (hx A B x ++ [.cells [.int .i64 (kd : Int), .int .i64 ((tk L a).pos : Int), .int .i64 0, .str [], .slice [x.cells] (.own (HN A B + 5))], .front 1 5, .front 1 5])) := by
    refine hB.app ?_
    simp [hx]
  obtain ⟨v, a2, e2, p2, g1, s1⟩ := q148 hL hK (k := 2) (by decide) A _ (a + 1) d 0 0 ha1 trivial hC (fun _ => rfl)
  refine ⟨v, a2, e2, p2, s1, ?_⟩
  rw [← hn, ← hkd] at h253
  subst h5
  have h1' : ¬ (5 : Int) ≤ t := by omega
  have h2' : ¬ (m : Int) < 5 := by omega
  simp only [hx, List.cons_append, List.nil_append, Int.cast_ofNat_Int, tEnc, Token.cells, XE.cells, XE.rows] at h184 g1 h253 ⊢
  cases c <;> simp -implicitDefEqProofs [m233_l0, ha, hB, RQ_push0, RQ_push1, h184, h253, h1, h1', h2, h2', w1, g1, endR, hx_truncO, q1, q2, q3]

/-- Where another sign stands. -/
theorem m233_other {n0 : Nat} {y : PM XE} {A B : List ABlk} {x : XE} {a d t m n kd : Nat} {c : Bool} (ha : a < L.length) (hd : n0 + d = 65) (h0 : 1 ≤ n0) (hB : KB A B) (hn : n = (tightS (textS (tk L a))).1) (hkd : kd = (tightS (textS (tk L a))).2) (h1 : ¬ n ≤ t) (h2 : ¬ m < n) (h3 : ¬ (n = 1 ∧ c = true)) (h5 : ¬ n = 5)
    (ha1 : a + 1 < L.length) (hy : RCE L n0 233 [.int .i64 (n : Int)] xEnc y) : ∃ v a2 e2 p2, Step L y (a + 1) d 0 0 v a2 e2 p2 ∧
    m233_l0 KK (HN A B + 4) ([.ptr A.length 0, .int .i64 (t : Int), .ptr (HN A B) 0, .ptr (HN A B + 2) 0, .bool c, .int .i64 (m : Int)], RQ A L a d 0 0 (B ++ hx A B x)) =
      some (.normal, [.ptr A.length 0, .int .i64 (t : Int), .ptr (HN A B) 0, .ptr (HN A B + 2) 0, .bool (c || decide (n = 1)), .int .i64 (n : Int)], RQ A L a2 d e2 p2 (B ++ hx A B (.mk kd (tk L a).pos 0 [] [x, v]))) := by
  have h184 := r184 (L := L) (d := d) (e := 0) (p := 0) ha (hx_KB (x := x) hB)
  have h253 := q253 (textS (tk L a))
  have w1 := wrapS (a := a) (by omega)
  have q1 : ∀ h, AVal.san1 (HN A B + 4) h (.ptr A.length 0) = .ptr A.length 0 := fun h => san1_ptr (by simp [HN]; omega)
  have q2 : ∀ h, AVal.san1 (HN A B + 4) h (.ptr (HN A B) 0) = .ptr (HN A B) 0 := fun h => san1_ptr (by omega)
  have q3 : ∀ h, AVal.san1 (HN A B + 4) h (.ptr (HN A B + 2) 0) = .ptr (HN A B + 2) 0 := fun h => san1_ptr (by omega)
  have hC : KB A (B ++ (hx A B x ++ [.gone, .front 1 5, .front 1 5])) := by
    refine hB.app ?_
    simp [hx]
  obtain ⟨v, a2, e2, p2, g1, s1⟩ := hy A _ (a + 1) d 0 0 ha1 hd (fun _ => h0) hC (fun _ => rfl)
  refine ⟨v, a2, e2, p2, s1, ?_⟩
  rw [← hn, ← hkd] at h253
  have h1' : ¬ (n : Int) ≤ t := by omega
  have h2' : ¬ (m : Int) < n := by omega
  have h5' : ¬ (n : Int) = 5 := by omega
  simp only [hx, List.cons_append, List.nil_append, Int.cast_ofNat_Int, xEnc, XE.cells, XE.rows] at h184 g1 h253 ⊢
  by_cases h1n : n = 1
  · subst h1n
    have hc : c = false := by cases c; rfl; exact absurd ⟨rfl, rfl⟩ h3
    subst hc
    have h1' : ¬ (1 : Int) ≤ t := by omega
    have h2' : ¬ (m : Int) < 1 := by omega
    simp only [Int.cast_ofNat_Int] at g1 h253 ⊢
    simp -implicitDefEqProofs [m233_l0, ha, hB, RQ_push0, RQ_push1, h184, h253, h1', h2', w1, g1, endR, hx_truncO, q1, q2, q3]
  · have h1n' : ¬ (n : Int) = 1 := by omega
    cases c <;> simp -implicitDefEqProofs [m233_l0, ha, hB, RQ_push0, RQ_push1, h184, h253, h1, h1', h2, h2', h5, h5', h1n, h1n', w1, g1, endR, hx_truncO, q1, q2, q3]
end
end Go.Proofs.YtkeoalhglkfbkaaDoor

/-
  The document's parser: expressions of signs, by the evaluator. No conditions.
-/
namespace Go.Proofs.YtkeoalhglkfbkaaDoor
open Go Hk

theorem Step.from0 {L : List Token} {α : Type} {x y : PM α} {a b d a1 e1 p1 : Nat} {v : α} (s : Step L y b d 0 0 v a1 e1 p1) (h : x a d = y b d) : Step L x a d 0 0 v a1 e1 p1 :=
  ⟨s.lt, fun he hp => by rw [h]; exact s.ok he hp, fun h => absurd rfl h⟩
/-- What a step that went well says. -/
theorem Step.went {L : List Token} {α : Type} {x : PM α} {a d a1 p1 : Nat} {v : α} (s : Step L x a d 0 0 v a1 0 p1) : ∃ d', x a d = .ok v a1 d' := by
  have := s.ok rfl rfl
  cases hx : x a d with
  | ok v0 a0 d0 => rw [hx] at this; obtain ⟨rfl, rfl, _⟩ := this; exact ⟨d0, rfl⟩
  | bad e p a0 d0 => rw [hx] at this; obtain ⟨h1, _, h2⟩ := this; exact absurd h1.symm h2

section
variable {L : List Token} (hL : L.length ≤ 131072) (hK : TokOk L) (hW : WordOk L)
include hL hK hW

theorem m233_loop {n0 than d : Nat} {A B : List ABlk} (hB : KB A B) (hd : n0 + d = 65)
    (hy : ∀ t, than < t → t ≤ 7 → RCE L n0 233 [.int .i64 (t : Int)] xEnc (pChain L (pUn L n0) (7 - t))) :
    ∀ (f : Nat) (x : XE) (a e p m : Nat) (c : Bool), a < L.length → (e = 0 → L.length < a + f) → m ≤ 7 → (e = 0 → p = 0) → (e = 0 → 1 ≤ n0) →
    ∃ x' a' e' p' c' m', Step L (rLoop L (pUn L n0) than f m c x) a d e p x' a' e' p' ∧
      (lpW (m233_l0 KK (HN A B + 4)) ([.ptr A.length 0, .int .i64 (than : Int), .ptr (HN A B) 0, .ptr (HN A B + 2) 0, .bool c, .int .i64 (m : Int)], RQ A L a d e p (B ++ hx A B x)) =
          some (.exit 0, [.ptr A.length 0, .int .i64 (than : Int), .ptr (HN A B) 0, .ptr (HN A B + 2) 0, .bool c', .int .i64 (m' : Nat)], RQ A L a' d e' p' (B ++ hx A B x')) ∨
       lpW (m233_l0 KK (HN A B + 4)) ([.ptr A.length 0, .int .i64 (than : Int), .ptr (HN A B) 0, .ptr (HN A B + 2) 0, .bool c, .int .i64 (m : Int)], RQ A L a d e p (B ++ hx A B x)) =
          some (.ret, [.ptr A.length 0, .int .i64 (than : Int), .ptr (HN A B) 0, .ptr (HN A B + 2) 0, .bool c', .int .i64 (m' : Nat)], RQ A L a' d e' p' (B ++ hx2 x'))) := by
  intro f
  induction f with
  | zero =>
    intro x a e p m c ha hf hm hp h1
    have he : e ≠ 0 := fun h => by have := hf h; omega
    refine ⟨x, a, e, p, c, m, Step.stay ha he, .inl ?_⟩
    rw [lpW_step, m233_bad hB he]; rfl
  | succ f ih =>
    intro x a e p m c ha hf hm hp h1
    by_cases he : e = 0
    · subst he
      have hp0 := hp rfl
      subst hp0
      have hfl := hf rfl
      have h1n := h1 rfl
      obtain ⟨n, hn⟩ : ∃ n, n = (tightS (textS (tk L a))).1 := ⟨_, rfl⟩
      obtain ⟨kd, hkd⟩ : ∃ k, k = (tightS (textS (tk L a))).2 := ⟨_, rfl⟩
      by_cases hs : n ≤ than ∨ m < n ∨ (n = 1 ∧ c = true)
      · refine ⟨x, a, 0, 0, c, m, ⟨ha, fun _ _ => ?_, fun h => absurd rfl h⟩, .inr ?_⟩
        · have : rLoop L (pUn L n0) than (f + 1) m c x a d = .ok x a d := by
            simp only [rLoop, pm_bind, PM.bind, pHere, ← hn]
            rw [if_pos hs]; rfl
          rw [this]; exact ⟨rfl, rfl, rfl, rfl⟩
        · rw [lpW_step, m233_stop ha hB (by rw [← hn]; exact hs)]; rfl
      · have hs1 : ¬ n ≤ than := fun h => hs (.inl h)
        have hs2 : ¬ m < n := fun h => hs (.inr (.inl h))
        have hs3 : ¬ (n = 1 ∧ c = true) := fun h => hs (.inr (.inr h))
        have hsk : signOf (tk L a) (n - 1) = some kd := by rw [signOf_tight (hW a), ← hn, ← hkd, if_pos (by omega)]
        have ha1 := kind_lt (k := 4) hK ha (by decide) (signOf_kind hsk)
        have hn7 : n ≤ 7 := by omega
        by_cases h5 : n = 5
        · obtain ⟨v, a2, e2, p2, s1, g1⟩ := m233_five hL hK (x := x) (c := c) ha hB hn hkd hs1 hs2 h5 ha1 (d := d)
          have hp2 := s1.zero (fun _ => rfl)
          obtain ⟨x', a', e', p', c', m', s2, g2⟩ := ih (.mk kd (tk L a).pos v.num [] [x]) a2 e2 p2 n (c || decide (n = 1)) s1.lt (fun h => by
            subst h
            obtain ⟨d', hd'⟩ := s1.went
            have := (g_kind hK (k := 2) (by omega) _ _ _ _ _ hd' ha1).1
            omega) hn7 hp2 (fun _ => h1n)
          refine ⟨x', a', e', p', c', m', (Step.bind (f := fun z : Token => rLoop L (pUn L n0) than f n (c || decide (n = 1)) (.mk kd (tk L a).pos z.num [] [x])) s1 ((g_kind hK (by omega)).dep ha1) s2).from0 ?_, ?_⟩
          · simp only [rLoop, pm_bind, PM.bind, pHere, ← hn, ← hkd]
            rw [if_neg hs]
            simp only [PM.bind, pNext]
            rw [if_pos h5]; rfl
          · rw [lpW_step, g1]
            simpa only [Option.bind_some, thenDo_normal] using g2
        · obtain ⟨v, a2, e2, p2, s1, g1⟩ := m233_other hL hK (x := x) (c := c) ha hd h1n hB hn hkd hs1 hs2 hs3 h5 ha1 (hy n (by omega) hn7)
          have hp2 := s1.zero (fun _ => rfl)
          have hgc := g_chain hK (g_un hK n0) (7 - n)
          obtain ⟨x', a', e', p', c', m', s2, g2⟩ := ih (.mk kd (tk L a).pos 0 [] [x, v]) a2 e2 p2 n (c || decide (n = 1)) s1.lt (fun h => by
            subst h
            obtain ⟨d', hd'⟩ := s1.went
            have := (hgc _ _ _ _ _ hd' ha1).1
            omega) hn7 hp2 (fun _ => h1n)
          refine ⟨x', a', e', p', c', m', (Step.bind (f := fun z : XE => rLoop L (pUn L n0) than f n (c || decide (n = 1)) (.mk kd (tk L a).pos 0 [] [x, z])) s1 (hgc.dep ha1) s2).from0 ?_, ?_⟩
          · simp only [rLoop, pm_bind, PM.bind, pHere, ← hn, ← hkd]
            rw [if_neg hs]
            simp only [PM.bind, pNext]
            rw [if_neg h5]; rfl
          · rw [lpW_step, g1]
            simpa only [Option.bind_some, thenDo_normal] using g2
    · refine ⟨x, a, e, p, c, m, Step.stay ha he, .inl ?_⟩
      rw [lpW_step, m233_bad hB he]; rfl

/-- The function 'Expr', by that of what has one sign ahead at most. -/
theorem q233_one {n0 than : Nat} (ht : than ≤ 7) (hU : RCE L n0 252 [] xEnc (pUn L n0))
    (hy : ∀ t, than < t → t ≤ 7 → RCE L n0 233 [.int .i64 (t : Int)] xEnc (pChain L (pUn L n0) (7 - t))) : RCE L n0 233 [.int .i64 (than : Int)] xEnc (pThan L (pUn L n0) than) := by
  intro A B a d e p ha hd he hB hp
  have hC : KB A (B ++ [.cells [.int .i64 0, .int .i64 0, .int .i64 0, .str [], .slice [] (.own (HN A B + 1))], .front 0 0]) := hB.app (by simp)
  obtain ⟨v, a1, e1, p1, g1, s1⟩ := hU A _ a d e p ha hd he hC hp
  have hp1 := s1.zero hp
  have he1 : e1 = 0 → 1 ≤ n0 := fun h => by
    by_cases h0 : e = 0
    · exact he h0
    · obtain ⟨_, h2, _⟩ := s1.bad h0; omega
  have hg := g_un hK n0
  obtain ⟨x', a', e', p', c', m', s2, g2⟩ := m233_loop hL hK hW hB hd hy 131073 v a1 e1 p1 7 false s1.lt (fun _ => by omega) (Nat.le_refl 7) hp1 he1
  refine ⟨x', a', e', p', evW_by (m233_eq _ _ _ _) ?_, (s1.bind (hg.dep ha) s2).congr ?_⟩
  · simp only [hx, hx2, Int.cast_ofNat_Int] at g2
    rcases g2 with g2 | g2 <;> simp -implicitDefEqProofs [m233, hB, g1, g2]
  · rw [pm_bind, loop_than hK hW hg hL ht ha]
theorem q233 {n0 : Nat} (hU : RCE L n0 252 [] xEnc (pUn L n0)) : ∀ (j than : Nat), than + j = 7 → RCE L n0 233 [.int .i64 (than : Int)] xEnc (pThan L (pUn L n0) than) := by
  have key : ∀ (j than : Nat), than + j = 7 → ∀ t, than ≤ t → t ≤ 7 → RCE L n0 233 [.int .i64 (t : Int)] xEnc (pThan L (pUn L n0) t) := by
    intro j
    induction j with
    | zero =>
      intro than h t h1 h2
      exact q233_one hL hK hW h2 hU fun t' h3 h4 => absurd h3 (by omega)
    | succ j ih =>
      intro than h t h1 h2
      refine q233_one hL hK hW h2 hU fun t' h3 h4 => ?_
      have := ih (than + 1) (by omega) t' (by omega) h4
      unfold pThan at this
      rw [if_neg (by omega)] at this
      exact this
  intro j than h
  exact key j than h than (Nat.le_refl _) (by omega)
/-- The function 'Expr' with all signs. -/
theorem q233_all {n0 : Nat} (hU : RCE L n0 252 [] xEnc (pUn L n0)) : RCE L n0 233 [.int .i64 0] xEnc (pEx L n0) := by
  have := q233 hL hK hW hU 7 0 rfl
  unfold pThan at this
  rw [if_pos rfl] at this
  exact this
end
end Go.Proofs.YtkeoalhglkfbkaaDoor

/-
  The document's parser: what stands behind a name, by the evaluator. No conditions.
-/
namespace Go.Proofs.YtkeoalhglkfbkaaDoor
open Go Hk

/-- The rest of a list, behind an element. -/
def pRest (L : List Token) {α : Type} (one : PM α) (n : Nat) (l : List α) : PM (List α) := do
  if ← pMaybe L [44] then pMore L one n l else return l
theorem more_rest {L : List Token} {α : Type} {one : PM α} {n : Nat} {l : List α} : pMore L one (n + 1) l = (one >>= fun x => pRest L one n (l ++ [x])) := by
  rw [pMore]; rfl
/-- What stands behind a name. -/
def pBehind (L : List Token) (ex : PM XE) (nm : Token) : PM XE := do
  if ← pIs L [40] then pCall L ex nm
  else if ← pIs L [91] then
    let l ← pIndex L ex
    return .mk 3 nm.pos 0 nm.text l
  else return .mk 2 nm.pos 0 nm.text []

theorem open_lt {L : List Token} {w : List UInt8} {a d e p a1 p1 : Nat} {u : Unit} (s : Step L (pOpen L w) a d e p u a1 0 p1) (hp : e = 0 → p = 0) : d ≠ 64 ∧ e = 0 := by
  by_cases he : e = 0
  · subst he
    have := hp rfl
    subst this
    obtain ⟨d', h⟩ := s.went
    refine ⟨fun h64 => ?_, rfl⟩
    rw [h64] at h
    unfold pOpen at h
    split at h
    · simp only [if_true] at h; cases h
    · cases h
  · obtain ⟨_, h2, _⟩ := s.bad he; omega

/-- What the function 'behind' has. -/
def hb (A B : List ABlk) (nm : Token) (k : Int) (l : List XE) : List ABlk := [.cells nm.cells, .cells [.int .i64 0, .int .i64 0, .int .i64 0, .str [], .slice [] (.own (HN A B + 2))], .front 0 0,
  .cells [.int .i64 k, .int .i64 (nm.pos : Int), .int .i64 0, .str nm.text, .slice (l.map XE.cells) (.own (HN A B + 4))], .front l.length (fsz l.length 5)]

section
variable {L : List Token} (hL : L.length ≤ 131072) (hK : TokOk L) (hW : WordOk L)
include hL hK

omit hL hK in
theorem hb_KB {A B : List ABlk} {nm : Token} {k : Int} {l : List XE} (hB : KB A B) : KB A (B ++ (hb A B nm k l ++ [.front 1 5])) := hB.app (by simp [hb])
omit hL hK in
theorem hb_trunc {A B C : List ABlk} {nm : Token} {k : Int} {l : List XE} {a d e p : Nat} (hB : KB A B) : trunc (HN A B + 6) (RQ A L a d e p (B ++ (hb A B nm k l ++ (.front 1 5 :: C)))) = some (RQ A L a d e p (B ++ (hb A B nm k l ++ [.front 1 5]))) := by
  have := RQ_truncK (L := L) (a := a) (d := d) (er := e) (p := p) (A := A) (B := B) (C := hb A B nm k l ++ (.front 1 5 :: C)) (k := 6) (by simpa [hb] using hb_KB (nm := nm) (k := k) (l := l) hB) (by simp [hb])
  simpa [hb] using this

theorem m254_loop {n0 d : Nat} {A B : List ABlk} {nm : Token} (hB : KB A B) (hd : n0 + d = 65) (hE : RCE L n0 233 [.int .i64 0] xEnc (pEx L n0)) :
    ∀ (f : Nat) (l : List XE) (a e p : Nat), a < L.length → (e = 0 → L.length < a + f) → (e = 0 → p = 0) → (e = 0 → 1 ≤ n0) → (e = 0 → l.length ≤ a) → l.length ≤ 131072 →
    ∃ l' a' e' p', Step L (pRest L (pEx L n0) f l) a d e p l' a' e' p' ∧ l'.length ≤ 131072 ∧
      lpW (m254_l0 KK (HN A B + 6)) ([.ptr A.length 0, .ptr (HN A B + 1) 0, .ptr (HN A B + 3) 0], RQ A L a d e p (B ++ (hb A B nm 4 l ++ [.front 1 5]))) =
        some (.exit 0, [.ptr A.length 0, .ptr (HN A B + 1) 0, .ptr (HN A B + 3) 0], RQ A L a' d e' p' (B ++ (hb A B nm 4 l' ++ [.front 1 5]))) := by
  intro f
  have q1 : ∀ h, AVal.san1 (HN A B + 6) h (.ptr A.length 0) = .ptr A.length 0 := fun h => san1_ptr (by simp [HN]; omega)
  have q2 : ∀ h, AVal.san1 (HN A B + 6) h (.ptr (HN A B + 1) 0) = .ptr (HN A B + 1) 0 := fun h => san1_ptr (by omega)
  have q3 : ∀ h, AVal.san1 (HN A B + 6) h (.ptr (HN A B + 3) 0) = .ptr (HN A B + 3) 0 := fun h => san1_ptr (by omega)
  -- no sign between: the end
  have stop : ∀ (f : Nat) (l : List XE) (a e p : Nat), a < L.length → (e = 0 → p = 0) → see e (tk L a) [44] = false → l.length ≤ 131072 →
      ∃ l' a' e' p', Step L (pRest L (pEx L n0) f l) a d e p l' a' e' p' ∧ l'.length ≤ 131072 ∧
      lpW (m254_l0 KK (HN A B + 6)) ([.ptr A.length 0, .ptr (HN A B + 1) 0, .ptr (HN A B + 3) 0], RQ A L a d e p (B ++ (hb A B nm 4 l ++ [.front 1 5]))) =
        some (.exit 0, [.ptr A.length 0, .ptr (HN A B + 1) 0, .ptr (HN A B + 3) 0], RQ A L a' d e' p' (B ++ (hb A B nm 4 l' ++ [.front 1 5]))) := by
    intro f l a e p ha hp hs hl2
    have h151 := q151 (L := L) hL (d := d) (w := [44]) (by decide) ha (hb_KB (nm := nm) (k := 4) (l := l) hB) hp
    simp only [hs, Bool.false_eq_true, if_false] at h151
    refine ⟨l, a, e, p, ?_, hl2, ?_⟩
    · unfold pRest
      refine Step.maybe hL hK ?_
      simp only [hs, Bool.false_eq_true, if_false]
      exact Step.pure ha
    · have ht := hb_trunc (L := L) (C := []) (nm := nm) (k := 4) (l := l) (a := a) (d := d) (e := e) (p := p) hB
      rw [lpW_step]
      simp -implicitDefEqProofs [m254_l0, h151, endR, ht, q1, q2, q3]
  induction f with
  | zero =>
    intro l a e p ha hf hp h1 hl hl2
    have he : e ≠ 0 := fun h => by have := hf h; omega
    exact stop 0 l a e p ha hp (by simp [see, he]) hl2
  | succ f ih =>
    intro l a e p ha hf hp h1 hl hl2
    cases hs : see e (tk L a) [44]
    · exact stop (f + 1) l a e p ha hp hs hl2
    · obtain ⟨he, hs2, ha1⟩ := see_lt hL hK ha hs
      subst he
      have := hp rfl
      subst this
      have hfl := hf rfl
      have hll := hl rfl
      have h151 := q151 (L := L) hL (d := d) (w := [44]) (by decide) ha (hb_KB (nm := nm) (k := 4) (l := l) hB) hp
      simp only [hs, if_true] at h151
      have hC : KB A (B ++ [.cells nm.cells, .cells [.int .i64 0, .int .i64 0, .int .i64 0, .str [], .slice [] (.own (HN A B + 2))], .front 0 0, .gone, .front l.length (fsz l.length 5), .front 1 5]) := hB.app (by simp)
      obtain ⟨v, a2, e2, p2, g1, s1⟩ := hE A _ (a + 1) d 0 0 ha1 hd h1 hC (fun _ => rfl)
      have hp2 := s1.zero (fun _ => rfl)
      have hg := g_ex hK n0
      obtain ⟨l', a', e', p', s2, hl3, g2⟩ := ih (l ++ [v]) a2 e2 p2 s1.lt (fun h => by
        subst h
        obtain ⟨d', hd'⟩ := s1.went
        have := (hg _ _ _ _ _ hd' ha1).1
        omega) hp2 (fun _ => h1 rfl) (fun h => by
        subst h
        obtain ⟨d', hd'⟩ := s1.went
        have := (hg _ _ _ _ _ hd' ha1).1
        simp; omega) (by simp; omega)
      refine ⟨l', a', e', p', ?_, hl3, ?_⟩
      · unfold pRest
        refine Step.maybe hL hK ?_
        simp only [hs, if_true]
        rw [more_rest]
        exact s1.bind (hg.dep ha1) s2
      · have ht := hb_trunc (L := L) (C := [.front 1 5]) (nm := nm) (k := 4) (l := l ++ [v]) (a := a2) (d := d) (e := e2) (p := p2) hB
        have hpush := fun (t : Tok) (C : List ABlk) hc => RQ_pushL (A := A) (B := B) (C := C) (L := L) (a := a2) (d := d) (er := e2) (p := p2) (k := 4) (x := v) (t := t) l hc (by omega)
        rw [lpW_step, ← g2]
        simp only [hb, List.cons_append, List.nil_append, List.map_append, List.map_cons, List.map_nil, xEnc, Token.cells, List.length_append, List.length_cons, List.length_nil, Nat.zero_add, fsz_succ] at h151 g1 ht ⊢
        simp -implicitDefEqProofs [m254_l0, h151, g1, hB, hpush, endR, ht, q1, q2, q3]

/-- What the function 'behind' answers: its list may be appended to. -/
def RCB (L : List Token) (n0 : Nat) : Prop := ∀ (nm : Token) (A B : List ABlk) (a d e p : Nat), a < L.length → n0 + 1 + d = 65 → KB A B → (e = 0 → p = 0) →
  ∃ k l a' e' p' C, KK 254 [.ptr A.length 0, .agg nm.cells] (RQ A L a d e p B) = some (.ret (.agg [.int .i64 (k : Nat), .int .i64 (nm.pos : Int), .int .i64 0, .str nm.text, .slice (l.map XE.cells) (.own (HN A B + 4))]), RQ A L a' d e' p' (B ++ C)) ∧
    C[4]? = some (.front l.length (fsz l.length 5)) ∧ (∃ R : List AVal, R.length = 5 ∧ CBn (HN A B + 5) R ∧ (C = [.cells nm.cells, .cells R, .front 0 0, .cells R, .front l.length (fsz l.length 5)] ∨ C = [.cells nm.cells, .cells R, .front 0 0, .cells R, .front l.length (fsz l.length 5), .front 1 5])) ∧ KBn (HN A B + C.length) C ∧ l.length ≤ 131072 ∧ Step L (pBehind L (pEx L n0) nm) a d e p (.mk k nm.pos 0 nm.text l) a' e' p'

theorem q254 {n0 : Nat} (hE : RCE L n0 233 [.int .i64 0] xEnc (pEx L n0)) : RCB L n0 := by
  intro nm A B a d e p ha hd hB hp
  have hbB : ∀ k l, KB A (B ++ hb A B nm k l) := fun k l => hB.app (by simp [hb])
  have h40 := fun k l => q149 (L := L) (d := d) (w := [40]) (by decide) ha (hbB k l) hp
  have h91 := fun k l => q149 (L := L) (d := d) (w := [91]) (by decide) ha (hbB k l) hp
  cases hs : see e (tk L a) [40]
  · cases hs2 : see e (tk L a) [91]
    · have g1 := h40 2 []
      have g2 := h91 2 []
      simp only [hs, hs2, hb, List.map_nil, List.length_nil, fsz_zero] at g1 g2
      refine ⟨2, [], a, e, p, [.cells nm.cells, .cells [.int .i64 2, .int .i64 (nm.pos : Int), .int .i64 0, .str nm.text, .slice [] (.own (HN A B + 4))], .front 0 0, .cells [.int .i64 2, .int .i64 (nm.pos : Int), .int .i64 0, .str nm.text, .slice [] (.own (HN A B + 4))], .front 0 0],
        evW_by (m254_eq _ _ _ _) ?_, rfl, ⟨_, rfl, by simp, .inl rfl⟩, by simp, by simp, ?_⟩
      · simp only [Token.cells] at g1 g2
        simp -implicitDefEqProofs [m254, g1, g2]
      · unfold pBehind
        refine Step.sees hL hK ?_
        simp only [hs, Bool.false_eq_true, if_false]
        refine Step.sees hL hK ?_
        simp only [hs2, Bool.false_eq_true, if_false]
        exact Step.pure ha
    · obtain ⟨u, a1, e1, p1, g3, s3⟩ := q186 hL hK (w := [91]) (by decide) A _ a d e p ha (by show d ≤ 64; omega) (hbB 3 []) hp
      have hp1 := s3.zero hp
      have hn1 : e1 = 0 → 1 ≤ n0 := fun h => by subst h; have := (open_lt s3 hp).1; omega
      have hC : KB A (B ++ [.cells nm.cells, .cells [.int .i64 0, .int .i64 0, .int .i64 0, .str [], .slice [] (.own (HN A B + 2))], .front 0 0, .gone, .front 0 0]) := hB.app (by simp)
      obtain ⟨v, a2, e2, p2, g4, s4⟩ := hE A _ a1 (d + 1) e1 p1 s3.lt (by omega) hn1 hC hp1
      have hp2 := s4.zero hp1
      obtain ⟨u', a3, e3, p3, g5, s5⟩ := q188 hL hK (w := [93]) (by decide) A _ a2 (d + 1) e2 p2 s4.lt (by show 1 ≤ d + 1 ∧ d + 1 ≤ 1000; omega) (hb_KB (nm := nm) (k := 3) (l := [v]) hB) hp2
      have g1 := h40 2 []
      have g2 := h91 2 []
      have hg := g_ex hK n0
      refine ⟨3, [v], a3, e3, p3, [.cells nm.cells, .cells [.int .i64 3, .int .i64 (nm.pos : Int), .int .i64 0, .str nm.text, .slice [v.cells] (.own (HN A B + 4))], .front 0 0, .cells [.int .i64 3, .int .i64 (nm.pos : Int), .int .i64 0, .str nm.text, .slice [v.cells] (.own (HN A B + 4))], .front 1 5, .front 1 5],
        evW_by (m254_eq _ _ _ _) ?_, rfl, ⟨_, rfl, by simp, .inr rfl⟩, by simp, by simp, ?_⟩
      · simp only [hs, hs2, hb, List.map_nil, List.length_nil, fsz_zero, List.cons_append, List.nil_append, List.map_cons, List.length_cons, Nat.zero_add, fsz_succ, Token.cells, uEnc, xEnc, Nat.add_sub_cancel, Int.cast_ofNat_Int] at g1 g2 g3 g4 g5
        simp -implicitDefEqProofs [m254, g1, g2, g3, g4, g5, hB, RQ_push0]
      · unfold pBehind
        refine Step.sees hL hK ?_
        simp only [hs, Bool.false_eq_true, if_false]
        refine Step.sees hL hK ?_
        simp only [hs2, if_true]
        have : Step L (pIndex L (pEx L n0)) a d e p [v] a3 e3 p3 := by
          unfold pIndex
          exact s3.bind ((g_open hK).dep ha) (s4.bind (hg.dep s3.lt) (s5.bind ((g_shut hK).dep s4.lt) (Step.pure s5.lt)))
        exact this.bind ((g_index hK hg).dep ha) (Step.pure this.lt)
  · obtain ⟨u, a1, e1, p1, g3, s3⟩ := q186 hL hK (w := [40]) (by decide) A _ a d e p ha (by show d ≤ 64; omega) (hbB 4 []) hp
    have hp1 := s3.zero hp
    have hn1 : e1 = 0 → 1 ≤ n0 := fun h => by subst h; have := (open_lt s3 hp).1; omega
    have g1 := h40 2 []
    have h41 := fun k l => q149 (L := L) (d := d + 1) (w := [41]) (by decide) s3.lt (hbB k l) hp1
    have g6 := h41 4 []
    have hg := g_ex hK n0
    cases hs3 : see e1 (tk L a1) [41]
    · have hC : KB A (B ++ [.cells nm.cells, .cells [.int .i64 0, .int .i64 0, .int .i64 0, .str [], .slice [] (.own (HN A B + 2))], .front 0 0, .gone, .front 0 0]) := hB.app (by simp)
      obtain ⟨v, a2, e2, p2, g4, s4⟩ := hE A _ a1 (d + 1) e1 p1 s3.lt (by omega) hn1 hC hp1
      have hp2 := s4.zero hp1
      have adv : e2 = 0 → a1 + 1 ≤ a2 := fun h => by
        by_cases he1 : e1 = 0
        · subst he1; subst h
          have := hp1 rfl
          subst this
          obtain ⟨d', hd'⟩ := s4.went
          exact (hg _ _ _ _ _ hd' s3.lt).1
        · have := (s4.bad he1).2.1; omega
      obtain ⟨l, a3, e3, p3, s5, hl3, g5⟩ := m254_loop (nm := nm) hL hK hB (show n0 + (d + 1) = 65 by omega) hE 131072 [v] a2 e2 p2 s4.lt (fun _ => by omega) hp2 (fun h => by
        by_cases he1 : e1 = 0
        · exact hn1 he1
        · have := (s4.bad he1).2.1; omega) (fun h => by have := adv h; simp; omega) (by simp)
      have hp3 := s5.zero hp2
      obtain ⟨u', a4, e4, p4, g7, s6⟩ := q188 hL hK (w := [41]) (by decide) A _ a3 (d + 1) e3 p3 s5.lt (by show 1 ≤ d + 1 ∧ d + 1 ≤ 1000; omega) (hb_KB (nm := nm) (k := 4) (l := l) hB) hp3
      refine ⟨4, l, a4, e4, p4, [.cells nm.cells, .cells [.int .i64 4, .int .i64 (nm.pos : Int), .int .i64 0, .str nm.text, .slice (l.map XE.cells) (.own (HN A B + 4))], .front 0 0, .cells [.int .i64 4, .int .i64 (nm.pos : Int), .int .i64 0, .str nm.text, .slice (l.map XE.cells) (.own (HN A B + 4))], .front l.length (fsz l.length 5), .front 1 5],
        evW_by (m254_eq _ _ _ _) ?_, rfl, ⟨_, rfl, by simp, .inr rfl⟩, by simp, hl3, ?_⟩
      · simp only [hs, hs3, hb, List.map_nil, List.length_nil, fsz_zero, List.cons_append, List.nil_append, List.map_cons, List.length_cons, Nat.zero_add, fsz_succ, Token.cells, uEnc, xEnc, Nat.add_sub_cancel, Int.cast_ofNat_Int] at g1 g3 g4 g5 g6 g7
        simp -implicitDefEqProofs [m254, g1, g3, g4, g5, g6, g7, hB, RQ_push0]
      · unfold pBehind
        refine Step.sees hL hK ?_
        simp only [hs, if_true]
        unfold pCall pList
        have h1 : Step L (pMore L (pEx L n0) (131072 + 1) []) a1 (d + 1) e1 p1 l a3 e3 p3 := by
          rw [more_rest]
          exact s4.bind (hg.dep s3.lt) s5
        refine s3.bind ((g_open hK).dep ha) (Step.bind (d1 := d + 1) (v := l) (a1 := a3) (e1 := e3) (p1 := p3) ?_ ((g_list hK hg).dep s3.lt) (s6.bind ((g_shut hK).dep s5.lt) (Step.pure s6.lt)))
        refine Step.sees hL hK ?_
        simp only [hs3, Bool.false_eq_true, if_false]
        exact h1
    · obtain ⟨u', a4, e4, p4, g7, s6⟩ := q188 hL hK (w := [41]) (by decide) A _ a1 (d + 1) e1 p1 s3.lt (by show 1 ≤ d + 1 ∧ d + 1 ≤ 1000; omega) (hbB 4 []) hp1
      refine ⟨4, [], a4, e4, p4, [.cells nm.cells, .cells [.int .i64 4, .int .i64 (nm.pos : Int), .int .i64 0, .str nm.text, .slice [] (.own (HN A B + 4))], .front 0 0, .cells [.int .i64 4, .int .i64 (nm.pos : Int), .int .i64 0, .str nm.text, .slice [] (.own (HN A B + 4))], .front 0 0],
        evW_by (m254_eq _ _ _ _) ?_, rfl, ⟨_, rfl, by simp, .inl rfl⟩, by simp, by simp, ?_⟩
      · simp only [hs, hs3, hb, List.map_nil, List.length_nil, fsz_zero, List.cons_append, List.nil_append, Token.cells, uEnc, Nat.add_sub_cancel] at g1 g3 g6 g7
        simp -implicitDefEqProofs [m254, g1, g3, g6, g7, hB]
      · unfold pBehind
        refine Step.sees hL hK ?_
        simp only [hs, if_true]
        unfold pCall pList
        refine s3.bind ((g_open hK).dep ha) (Step.bind (d1 := d + 1) (v := []) (a1 := a1) (e1 := e1) (p1 := p1) ?_ ((g_list hK hg).dep s3.lt) (s6.bind ((g_shut hK).dep s3.lt) (Step.pure s6.lt)))
        refine Step.sees hL hK ?_
        simp only [hs3, if_true]
        exact Step.pure s3.lt
end
end Go.Proofs.YtkeoalhglkfbkaaDoor

/-
  The document's parser: words that make something, numbers and names, by the evaluator. No conditions.
-/
namespace Go.Proofs.YtkeoalhglkfbkaaDoor
open Go Hk

def wordT : List (List UInt8 × Nat × Nat) := [([109, 117, 108, 104, 105], 23, 2), ([99, 97, 114, 114, 121], 24, 2), ([115, 101, 108, 101, 99, 116], 25, 3), ([119, 111, 114, 100], 26, 1), ([114, 111, 114], 16, 1)]
theorem lit261a {h : Heap} : abuildSlice 5 1 [(.str [])] [(0, (.str [109, 117, 108, 104, 105])), (1, (.str [99, 97, 114, 114, 121])), (2, (.str [115, 101, 108, 101, 99, 116])), (3, (.str [119, 111, 114, 100])), (4, (.str [114, 111, 114]))] h = some (.slice (wordT.map fun x => [.str x.1]) (.own h.length), h ++ [.front 5 1]) := (rfl)
theorem lit261b {h : Heap} : abuildSlice 5 1 [(.int .i64 0)] [(0, (.int .i64 23)), (1, (.int .i64 24)), (2, (.int .i64 25)), (3, (.int .i64 26)), (4, (.int .i64 16))] h = some (.slice (wordT.map fun x => [.int .i64 (x.2.1 : Int)]) (.own h.length), h ++ [.front 5 1]) := (rfl)
theorem lit261c {h : Heap} : abuildSlice 5 1 [(.int .i64 0)] [(0, (.int .i64 2)), (1, (.int .i64 2)), (2, (.int .i64 3)), (3, (.int .i64 1)), (4, (.int .i64 1))] h = some (.slice (wordT.map fun x => [.int .i64 (x.2.2 : Int)]) (.own h.length), h ++ [.front 5 1]) := (rfl)

/-- What the function 'word' has: ahead of a word's expression, and with it. -/
def hv (A B : List ABlk) (tok : Token) : List ABlk := [.cells [.int .i64 0, .int .i64 0, .int .i64 0, .str [], .slice [] (.own (HN A B + 1))], .front 0 0, .cells tok.cells, .front 5 1, .front 5 1, .front 5 1]
def hw (A B : List ABlk) (tok : Token) (kd : Nat) (num : Nat) (l : List XE) : List ABlk := [.cells [.int .i64 0, .int .i64 0, .int .i64 0, .str [], .slice [] (.own (HN A B + 1))], .front 0 0, .cells tok.cells, .front 5 1, .front 5 1, .front 5 1,
  .cells [.int .i64 (kd : Int), .int .i64 (tok.pos : Int), .int .i64 (num : Int), .str [], .slice (l.map XE.cells) (.own (HN A B + 7))], .front l.length (fsz l.length 5)]

section
variable {L : List Token} (hL : L.length ≤ 131072) (hK : TokOk L) (hW : WordOk L)
include hL hK

omit hL hK in
theorem hw_KB {A B : List ABlk} {tok : Token} {kd num : Nat} {l : List XE} (hB : KB A B) : KB A (B ++ hw A B tok kd num l) := hB.app (by simp [hw])
omit hL hK in
theorem hv_KB {A B : List ABlk} {tok : Token} (hB : KB A B) : KB A (B ++ hv A B tok) := hB.app (by simp [hv])
omit hL hK in
theorem hw_trunc {A B C : List ABlk} {tok : Token} {kd num : Nat} {l : List XE} {a d e p : Nat} (hB : KB A B) : trunc (HN A B + 8) (RQ A L a d e p (B ++ (hw A B tok kd num l ++ C))) = some (RQ A L a d e p (B ++ hw A B tok kd num l)) := by
  have := RQ_truncK (L := L) (a := a) (d := d) (er := e) (p := p) (A := A) (B := B) (C := hw A B tok kd num l ++ C) (k := 8) (by simpa [hw] using hw_KB (tok := tok) (kd := kd) (num := num) (l := l) hB) (by simp [hw])
  simpa [hw] using this

/-- The state of the loop over what is made of. -/
def st0 (A B : List ABlk) (s : List UInt8) (i k : Nat) : List AVal := [.ptr A.length 0, .str s, .ptr (HN A B) 0, .ptr (HN A B + 2) 0, .slice (wordT.map fun x => [.str x.1]) (.own (HN A B + 3)), .slice (wordT.map fun x => [.int .i64 (x.2.1 : Int)]) (.own (HN A B + 4)), .slice (wordT.map fun x => [.int .i64 (x.2.2 : Int)]) (.own (HN A B + 5)), .int .i64 (i : Int), .ptr (HN A B + 6) 0, .int .i64 (k : Int)]

theorem m261_args {n0 d kd many i : Nat} {A B : List ABlk} {tok : Token} {s w : List UInt8} (hB : KB A B) (hd : n0 + d = 65) (hT : wordT[i]? = some (w, kd, many)) (hm : many ≤ 100) (hE : RCE L n0 233 [.int .i64 0] xEnc (pEx L n0)) :
    ∀ (r k : Nat) (l : List XE) (a e p : Nat), k + r = many → l.length = k → a < L.length → (e = 0 → p = 0) → (e = 0 → 1 ≤ n0) →
    ∃ l' a' e' p', Step L (pArgs L (pEx L n0) r (decide (k = 0)) l) a d e p l' a' e' p' ∧ l'.length = many ∧
      lpW (m261_l0 KK (HN A B + 8)) (st0 A B s i k, RQ A L a d e p (B ++ hw A B tok kd 0 l)) = some (.exit 2, st0 A B s i many, RQ A L a' d e' p' (B ++ hw A B tok kd 0 l')) := by
  intro r
  have q1 : ∀ h, AVal.san1 (HN A B + 8) h (.ptr A.length 0) = .ptr A.length 0 := fun h => san1_ptr (by simp [HN]; omega)
  have q2 : ∀ h, AVal.san1 (HN A B + 8) h (.ptr (HN A B) 0) = .ptr (HN A B) 0 := fun h => san1_ptr (by omega)
  have q3 : ∀ h, AVal.san1 (HN A B + 8) h (.ptr (HN A B + 2) 0) = .ptr (HN A B + 2) 0 := fun h => san1_ptr (by omega)
  have q4 : ∀ h, AVal.san1 (HN A B + 8) h (.ptr (HN A B + 6) 0) = .ptr (HN A B + 6) 0 := fun h => san1_ptr (by omega)
  have o3 : HN A B + 3 < HN A B + 8 := by omega
  have o4 : HN A B + 4 < HN A B + 8 := by omega
  have o5 : HN A B + 5 < HN A B + 8 := by omega
  have hix : aindexSl 1 (.slice (wordT.map fun x => [.int .i64 (x.2.2 : Int)]) (.own (HN A B + 5))) (.int .i64 (i : Int)) = some (.pptr [.int .i64 (many : Int)]) := by
    rw [aindexSl_map, hT]; rfl
  induction r with
  | zero =>
    intro k l a e p hk hl ha hp h1
    obtain rfl : k = many := by omega
    refine ⟨l, a, e, p, Step.pure ha, hl, ?_⟩
    have ht := hw_trunc (L := L) (C := []) (tok := tok) (kd := kd) (num := 0) (l := l) (a := a) (d := d) (e := e) (p := p) hB
    rw [List.append_nil] at ht
    rw [lpW_step]
    simp -implicitDefEqProofs [m261_l0, st0, hT, endR, ht, q1, q2, q3, q4]
  | succ r ih =>
    intro k l a e p hk hl ha hp h1
    have hkm : (k : Int) < many := by omega
    have w1 := wrapS (a := k) (by omega)
    have hg := g_ex hK n0
    -- the sign between
    have comma : ∃ a1 e1 p1, a1 < L.length ∧ (e1 = 0 → p1 = 0) ∧ (e1 = 0 → 1 ≤ n0) ∧
        (∀ {β : Type} {f : PM β} {v : β} {a2 e2 p2 : Nat}, Step L f a1 d e1 p1 v a2 e2 p2 → Step L (if k = 0 then f else pTake L [44] >>= fun _ => f) a d e p v a2 e2 p2) ∧
        (k = 0 → a1 = a ∧ e1 = e ∧ p1 = p) ∧
        (k ≠ 0 → KK 147 [.ptr A.length 0, .str [44]] (RQ A L a d e p (B ++ hw A B tok kd 0 l)) = some (.ret (.tuple []), RQ A L a1 d e1 p1 (B ++ hw A B tok kd 0 l))) := by
      by_cases hk0 : k = 0
      · exact ⟨a, e, p, ha, hp, h1, fun s => by rw [if_pos hk0]; exact s, fun _ => ⟨rfl, rfl, rfl⟩, fun h => absurd hk0 h⟩
      · obtain ⟨u, a1, e1, p1, g1, s1⟩ := q147 hL hK (w := [44]) (by decide) A _ a d e p ha trivial (hw_KB (tok := tok) (kd := kd) (num := 0) (l := l) hB) hp
        refine ⟨a1, e1, p1, s1.lt, s1.zero hp, fun h => ?_, fun s => ?_, fun h => absurd h hk0, fun _ => g1⟩
        · by_cases h0 : e = 0
          · exact h1 h0
          · have := (s1.bad h0).2.1; omega
        · rw [if_neg hk0]
          exact s1.bind ((g_take hK).dep ha) s
    obtain ⟨a1, e1, p1, ha1, hp1, hn1, hst, hz, hnz⟩ := comma
    have hC : KB A (B ++ [.cells [.int .i64 0, .int .i64 0, .int .i64 0, .str [], .slice [] (.own (HN A B + 1))], .front 0 0, .cells tok.cells, .front 5 1, .front 5 1, .front 5 1, .gone, .front l.length (fsz l.length 5)]) := hB.app (by simp)
    obtain ⟨v, a2, e2, p2, g2, s2⟩ := hE A _ a1 d e1 p1 ha1 hd hn1 hC hp1
    have hp2 := s2.zero hp1
    obtain ⟨l', a', e', p', s3, hl3, g3⟩ := ih (k + 1) (l ++ [v]) a2 e2 p2 (by omega) (by simp [hl]) s2.lt hp2 (fun h => by
      by_cases h0 : e1 = 0
      · exact hn1 h0
      · have := (s2.bad h0).2.1; omega)
    rw [decide_eq_false (by omega)] at s3
    refine ⟨l', a', e', p', ?_, hl3, ?_⟩
    · have hs := hst (Step.bind (f := fun x => pArgs L (pEx L n0) r false (l ++ [x])) s2 (hg.dep ha1) s3)
      unfold pArgs
      by_cases hk0 : k = 0
      · rw [if_pos hk0] at hs
        rw [decide_eq_true hk0]
        exact hs
      · rw [if_neg hk0] at hs
        rw [decide_eq_false hk0]
        exact hs
    · have ht := hw_trunc (L := L) (C := [.front 1 5]) (tok := tok) (kd := kd) (num := 0) (l := l ++ [v]) (a := a2) (d := d) (e := e2) (p := p2) hB
      have hpush := fun (t : Tok) (C : List ABlk) hc => RQ_pushL (A := A) (B := B) (C := C) (L := L) (a := a2) (d := d) (er := e2) (p := p2) (k := 7) (x := v) (t := t) l hc (by omega)
      rw [lpW_step, ← g3]
      clear g3 ih s3 s2
      by_cases hk0 : k = 0
      · obtain ⟨rfl, rfl, rfl⟩ := hz hk0
        have hk0' : ¬ (0 : Int) < k := by omega
        have hk1 : ¬ 0 < k := by omega
        simp only [hw, List.cons_append, List.nil_append, List.map_append, List.map_cons, List.map_nil, xEnc, Token.cells, List.length_append, List.length_cons, List.length_nil, Nat.zero_add, fsz_succ, st0, Int.cast_ofNat_Int] at g2 ht ⊢
        simp -implicitDefEqProofs [m261_l0, hT, hkm, hk0', hk1, g2, hB, hpush, w1, endR, ht, q1, q2, q3, q4]
      · have g1 := hnz hk0
        have hk0' : (0 : Int) < k := by omega
        have hk1 : 0 < k := by omega
        simp only [hw, List.cons_append, List.nil_append, List.map_append, List.map_cons, List.map_nil, xEnc, Token.cells, List.length_append, List.length_cons, List.length_nil, Nat.zero_add, fsz_succ, st0, Int.cast_ofNat_Int] at g1 g2 ht ⊢
        simp -implicitDefEqProofs [m261_l0, hT, hkm, hk0', hk1, g1, g2, hB, hpush, w1, endR, ht, q1, q2, q3, q4]

omit hL hK in
theorem hw_truncO {A B C : List ABlk} {tok : Token} {a d e p : Nat} {k1 k2 k3 : Int} {nm : List UInt8} {rows : List (List AVal)} (hB : KB A B) :
    trunc (HN A B + 6) (RQ A L a d e p (B ++ (.cells [.int .i64 k1, .int .i64 k2, .int .i64 k3, .str nm, .slice rows (.own (HN A B + 7))] :: .front 0 0 :: .cells [.int .i64 (tok.kind : Int), .int .i64 (tok.pos : Int), .int .i64 (tok.num : Int), .str tok.text] :: .front 5 1 :: .front 5 1 :: .front 5 1 :: C))) =
      some (RQ A L a d e p (B ++ [.cells [.int .i64 k1, .int .i64 k2, .int .i64 k3, .str nm, .slice rows .no], .front 0 0, .cells [.int .i64 (tok.kind : Int), .int .i64 (tok.pos : Int), .int .i64 (tok.num : Int), .str tok.text], .front 5 1, .front 5 1, .front 5 1])) := by
  have h1 : ¬ HN A B + 7 < HN A B + 6 := by omega
  exact RQ_truncG (C1 := [.cells [.int .i64 k1, .int .i64 k2, .int .i64 k3, .str nm, .slice rows (.own (HN A B + 7))], .front 0 0, .cells [.int .i64 (tok.kind : Int), .int .i64 (tok.pos : Int), .int .i64 (tok.num : Int), .str tok.text], .front 5 1, .front 5 1, .front 5 1]) (C2 := C) hB rfl (by simp [h1])

def st1 (A B : List ABlk) (s : List UInt8) (i : Nat) : List AVal := [.ptr A.length 0, .str s, .ptr (HN A B) 0, .ptr (HN A B + 2) 0, .slice (wordT.map fun x => [.str x.1]) (.own (HN A B + 3)), .slice (wordT.map fun x => [.int .i64 (x.2.1 : Int)]) (.own (HN A B + 4)), .slice (wordT.map fun x => [.int .i64 (x.2.2 : Int)]) (.own (HN A B + 5)), .int .i64 (i : Int)]

omit hL hK in
theorem hv_trunc {A B : List ABlk} {tok : Token} {a d e p : Nat} (hB : KB A B) : trunc (HN A B + 6) (RQ A L a d e p (B ++ hv A B tok)) = some (RQ A L a d e p (B ++ hv A B tok)) := by
  have := RQ_truncK (L := L) (a := a) (d := d) (er := e) (p := p) (A := A) (B := B) (C := hv A B tok) (k := 6) (by simpa [hv] using hv_KB (tok := tok) hB) (by simp [hv])
  simpa [hv] using this

omit hL hK in
theorem m261_skip {A B : List ABlk} {tok : Token} {s w : List UInt8} {a d e p i kd many : Nat} (hB : KB A B) (hT : wordT[i]? = some (w, kd, many)) (hws : w ≠ s) (hi : i < 5) :
    m261_l1 KK (HN A B + 6) (st1 A B s i, RQ A L a d e p (B ++ hv A B tok)) = some (.normal, st1 A B s (i + 1), RQ A L a d e p (B ++ hv A B tok)) := by
  have q1 : ∀ h, AVal.san1 (HN A B + 6) h (.ptr A.length 0) = .ptr A.length 0 := fun h => san1_ptr (by simp [HN]; omega)
  have q2 : ∀ h, AVal.san1 (HN A B + 6) h (.ptr (HN A B) 0) = .ptr (HN A B) 0 := fun h => san1_ptr (by omega)
  have q3 : ∀ h, AVal.san1 (HN A B + 6) h (.ptr (HN A B + 2) 0) = .ptr (HN A B + 2) 0 := fun h => san1_ptr (by omega)
  have hi' : (i : Int) < 5 := by omega
  have w1 := wrapS (a := i) (by omega)
  have ht := hv_trunc (L := L) (tok := tok) (a := a) (d := d) (e := e) (p := p) hB
  simp -implicitDefEqProofs [m261_l1, st1, hT, hi', hws, w1, endR, ht, q1, q2, q3]
omit hL hK in
theorem m261_done {A B : List ABlk} {tok : Token} {s : List UInt8} {a d e p : Nat} (hB : KB A B) :
    m261_l1 KK (HN A B + 6) (st1 A B s 5, RQ A L a d e p (B ++ hv A B tok)) = some (.exit 0, st1 A B s 5, RQ A L a d e p (B ++ hv A B tok)) := by
  have q1 : ∀ h, AVal.san1 (HN A B + 6) h (.ptr A.length 0) = .ptr A.length 0 := fun h => san1_ptr (by simp [HN]; omega)
  have q2 : ∀ h, AVal.san1 (HN A B + 6) h (.ptr (HN A B) 0) = .ptr (HN A B) 0 := fun h => san1_ptr (by omega)
  have q3 : ∀ h, AVal.san1 (HN A B + 6) h (.ptr (HN A B + 2) 0) = .ptr (HN A B + 2) 0 := fun h => san1_ptr (by omega)
  have ht := hv_trunc (L := L) (tok := tok) (a := a) (d := d) (e := e) (p := p) hB
  simp -implicitDefEqProofs [m261_l1, st1, endR, ht, q1, q2, q3]

theorem m261_hit {n0 : Nat} {A B : List ABlk} {s : List UInt8} {a d i kd many : Nat} (hB : KB A B) (hd : n0 + 1 + d = 65) (hT : wordT[i]? = some (s, kd, many)) (hm : many ≤ 100) (hi : i < 5) (ha1 : a + 1 < L.length) (hE : RCE L n0 233 [.int .i64 0] xEnc (pEx L n0)) :
    ∃ num l a' e' p', Step L (pMade L (pEx L n0) kd many (decide (s = [114, 111, 114]))) a d 0 0 (.mk kd (tk L a).pos num [] l) a' e' p' ∧
      m261_l1 KK (HN A B + 6) (st1 A B s i, RQ A L a d 0 0 (B ++ hv A B (tk L a))) =
        some (.ret, st1 A B s i, RQ A L a' d e' p' (B ++ [.cells (XE.mk kd (tk L a).pos num [] l).cells, .front 0 0, .cells (tk L a).cells, .front 5 1, .front 5 1, .front 5 1])) := by
  have q1 : ∀ h, AVal.san1 (HN A B + 6) h (.ptr A.length 0) = .ptr A.length 0 := fun h => san1_ptr (by simp [HN]; omega)
  have q2 : ∀ h, AVal.san1 (HN A B + 6) h (.ptr (HN A B) 0) = .ptr (HN A B) 0 := fun h => san1_ptr (by omega)
  have q3 : ∀ h, AVal.san1 (HN A B + 6) h (.ptr (HN A B + 2) 0) = .ptr (HN A B + 2) 0 := fun h => san1_ptr (by omega)
  have hi' : (i : Int) < 5 := by omega
  have w1 := wrapS (a := a) (by omega)
  obtain ⟨tok, htok⟩ : ∃ t, t = tk L a := ⟨_, rfl⟩
  rw [← htok]
  have hg := g_ex hK n0
  obtain ⟨u, a1, e1, p1, g1, s1⟩ := q186 hL hK (w := [40]) (by decide) A _ (a + 1) d 0 0 ha1 (by show d ≤ 64; omega) (hw_KB (tok := tok) (kd := kd) (num := 0) (l := []) hB) (fun _ => rfl)
  have hp1 := s1.zero (fun _ => rfl)
  have hn1 : e1 = 0 → 1 ≤ n0 := fun h => by subst h; have := (open_lt s1 (fun _ => rfl)).1; omega
  obtain ⟨l, a2, e2, p2, s2, hl, g2⟩ := m261_args hL hK (tok := tok) (s := s) hB (show n0 + (d + 1) = 65 by omega) hT hm hE many 0 [] a1 e1 p1 (by omega) rfl s1.lt hp1 hn1
  have hp2 := s2.zero hp1
  have gargs : ∀ a' d', pArgs L (pEx L n0) many (decide (0 = 0)) [] a1 (d + 1) = .ok l a' d' → d' = d + 1 := fun a' d' h => ((g_args hK hg _ _ _) _ _ _ _ _ h s1.lt).2.2
  have gargs2 : ∀ v a' d', pArgs L (pEx L n0) many (decide (0 = 0)) [] a1 (d + 1) = .ok v a' d' → d' = d + 1 := fun v a' d' h => ((g_args hK hg _ _ _) _ _ _ _ _ h s1.lt).2.2
  by_cases hr : s = [114, 111, 114]
  · subst hr
    obtain ⟨u3, a3, e3, p3, g3, s3⟩ := q147 hL hK (w := [44]) (by decide) A _ a2 (d + 1) e2 p2 s2.lt trivial (hw_KB (tok := tok) (kd := kd) (num := 0) (l := l) hB) hp2
    have hp3 := s3.zero hp2
    obtain ⟨nt, a4, e4, p4, g4, s4⟩ := q148 hL hK (k := 2) (by decide) A _ a3 (d + 1) e3 p3 s3.lt trivial (hw_KB (tok := tok) (kd := kd) (num := 0) (l := l) hB) hp3
    have hp4 := s4.zero hp3
    obtain ⟨u5, a5, e5, p5, g5, s5⟩ := q188 hL hK (w := [41]) (by decide) A _ a4 (d + 1) e4 p4 s4.lt (by show 1 ≤ d + 1 ∧ d + 1 ≤ 1000; omega) (hw_KB (tok := tok) (kd := kd) (num := nt.num) (l := l) hB) hp4
    refine ⟨nt.num, l, a5, e5, p5, ?_, ?_⟩
    · have h2 := s1.bind (f := fun _ => pArgs L (pEx L n0) many true [] >>= fun l => pTake L [44] >>= fun _ => pKind L 2 >>= fun n => pShut L [41] >>= fun _ => pure (XE.mk kd tok.pos n.num [] l))
        ((g_open hK).dep ha1) (Step.bind s2 gargs2 (s3.bind ((g_take hK).dep s2.lt) (s4.bind ((g_kind hK (by omega)).dep s3.lt) (s5.bind ((g_shut hK).dep s4.lt) (Step.pure s5.lt)))))
      refine h2.from0 ?_
      unfold pMade
      simp only [decide_true, if_true, pm_bind, PM.bind, pHere, pNext, ← htok]
    · simp only [hw, List.map_nil, List.length_nil, fsz_zero, Nat.add_sub_cancel, Token.cells, uEnc, tEnc, st0, Int.cast_ofNat_Int] at g1 g2 g3 g4 g5
      simp -implicitDefEqProofs [m261_l1, st1, hv, hT, hi', w1, g1, g2, g3, g4, g5, ha1, hB, endR, hw_truncO, q1, q2, q3, XE.cells, XE.rows_eq]
  · obtain ⟨u5, a5, e5, p5, g5, s5⟩ := q188 hL hK (w := [41]) (by decide) A _ a2 (d + 1) e2 p2 s2.lt (by show 1 ≤ d + 1 ∧ d + 1 ≤ 1000; omega) (hw_KB (tok := tok) (kd := kd) (num := 0) (l := l) hB) hp2
    refine ⟨0, l, a5, e5, p5, ?_, ?_⟩
    · have h2 := s1.bind (f := fun _ => pArgs L (pEx L n0) many true [] >>= fun l => pShut L [41] >>= fun _ => pure (XE.mk kd tok.pos 0 [] l))
        ((g_open hK).dep ha1) (Step.bind s2 gargs2 (s5.bind ((g_shut hK).dep s2.lt) (Step.pure s5.lt)))
      refine h2.from0 ?_
      unfold pMade
      simp only [hr, decide_false, Bool.false_eq_true, if_false, pm_bind, PM.bind, pHere, pNext, ← htok]
    · simp only [hw, List.map_nil, List.length_nil, fsz_zero, Nat.add_sub_cancel, Token.cells, uEnc, tEnc, st0, Int.cast_ofNat_Int] at g1 g2 g5
      simp -implicitDefEqProofs [m261_l1, st1, hv, hT, hi', hr, w1, g1, g2, g5, ha1, hB, endR, hw_truncO, q1, q2, q3, XE.cells, XE.rows_eq]
end
end Go.Proofs.YtkeoalhglkfbkaaDoor

/-
  The document's parser: what has one sign ahead at most, by the evaluator. No conditions.
-/
namespace Go.Proofs.YtkeoalhglkfbkaaDoor
open Go Hk

section
variable {L : List Token} (hL : L.length ≤ 131072) (hK : TokOk L) (hW : WordOk L)
include hL hK

omit hL hK in
theorem lp_skip {A B : List ABlk} {tok : Token} {s w : List UInt8} {a d e p i kd many : Nat} (hB : KB A B) (hT : wordT[i]? = some (w, kd, many)) (hws : w ≠ s) (hi : i < 5) :
    lpW (m261_l1 KK (HN A B + 6)) (st1 A B s i, RQ A L a d e p (B ++ hv A B tok)) = lpW (m261_l1 KK (HN A B + 6)) (st1 A B s (i + 1), RQ A L a d e p (B ++ hv A B tok)) := by
  rw [lpW_step, m261_skip hB hT hws hi]; rfl

/-- A word that makes something. -/
theorem q261_word {n0 : Nat} (hE : RCE L n0 233 [.int .i64 0] xEnc (pEx L n0)) {i kd many : Nat} {s : List UInt8} (hT : wordT[i]? = some (s, kd, many)) {A B : List ABlk} {a d : Nat} (ha : a < L.length) (hd : n0 + 1 + d = 65) (hB : KB A B) (hs : isS (tk L a) s = true)
    (hm : many ≤ 100) (hi : i < 5) (hfirst : ∀ j, j < i → ∃ w k m, wordT[j]? = some (w, k, m) ∧ w ≠ s) :
    ∃ v a' e' p', KK 261 [.ptr A.length 0, .str s] (RQ A L a d 0 0 B) = some (.ret (xEnc v), RQ A L a' d e' p' B) ∧ Step L (pMade L (pEx L n0) kd many (decide (s = [114, 111, 114]))) a d 0 0 v a' e' p' := by
  have ha1 := isS_lt hK ha hs
  obtain ⟨num, l, a', e', p', s1, g1⟩ := m261_hit hL hK hB hd hT hm hi ha1 hE
  refine ⟨_, a', e', p', evW_by (m261_eq _ _ _ _) ?_, s1⟩
  have hl : lpW (m261_l1 KK (HN A B + 6)) (st1 A B s 0, RQ A L a d 0 0 (B ++ hv A B (tk L a))) = some (.ret, st1 A B s i, RQ A L a' d e' p' (B ++ [.cells (XE.mk kd (tk L a).pos num [] l).cells, .front 0 0, .cells (tk L a).cells, .front 5 1, .front 5 1, .front 5 1])) := by
    have key : ∀ j, j ≤ i → lpW (m261_l1 KK (HN A B + 6)) (st1 A B s 0, RQ A L a d 0 0 (B ++ hv A B (tk L a))) = lpW (m261_l1 KK (HN A B + 6)) (st1 A B s j, RQ A L a d 0 0 (B ++ hv A B (tk L a))) := by
      intro j
      induction j with
      | zero => intro _; rfl
      | succ j ih =>
        intro hj
        obtain ⟨w, k, m, h1, h2⟩ := hfirst j (by omega)
        rw [ih (by omega), lp_skip hB h1 h2 (by omega)]
    rw [key i (Nat.le_refl _), lpW_step, g1]; rfl
  simp only [hv, st1, Int.cast_ofNat_Int, Token.cells] at hl
  simp -implicitDefEqProofs [m261, ha, hB, lit261a, lit261b, lit261c, hl]

/-- A number, or a name. -/
theorem q261_else {n0 : Nat} (hBh : RCB L n0) {s : List UInt8} {A B : List ABlk} {a d : Nat} (ha : a < L.length) (hd : n0 + 1 + d = 65) (hB : KB A B)
    (hfirst : ∀ j, j < 5 → ∃ w k m, wordT[j]? = some (w, k, m) ∧ w ≠ s) :
    ∃ v a' e' p', KK 261 [.ptr A.length 0, .str s] (RQ A L a d 0 0 B) = some (.ret (xEnc v), RQ A L a' d e' p' B) ∧
      Step L (if (tk L a).kind = 2 then (pNext >>= fun _ => pure (.mk 1 (tk L a).pos (tk L a).num [] [])) else pKind L 1 >>= fun _ => pBehind L (pEx L n0) (tk L a)) a d 0 0 v a' e' p' := by
  have hl : lpW (m261_l1 KK (HN A B + 6)) (st1 A B s 0, RQ A L a d 0 0 (B ++ hv A B (tk L a))) = some (.exit 0, st1 A B s 5, RQ A L a d 0 0 (B ++ hv A B (tk L a))) := by
    have key : ∀ j, j ≤ 5 → lpW (m261_l1 KK (HN A B + 6)) (st1 A B s 0, RQ A L a d 0 0 (B ++ hv A B (tk L a))) = lpW (m261_l1 KK (HN A B + 6)) (st1 A B s j, RQ A L a d 0 0 (B ++ hv A B (tk L a))) := by
      intro j
      induction j with
      | zero => intro _; rfl
      | succ j ih =>
        intro hj
        obtain ⟨w, k, m, h1, h2⟩ := hfirst j (by omega)
        rw [ih (by omega), lp_skip hB h1 h2 (by omega)]
    rw [key 5 (Nat.le_refl _), lpW_step, m261_done hB]; rfl
  have w1 := wrapS (a := a) (by omega)
  by_cases hk : (tk L a).kind = 2
  · have ha1 := kind_lt (k := 2) hK ha (by decide) hk
    refine ⟨.mk 1 (tk L a).pos (tk L a).num [] [], a + 1, 0, 0, evW_by (m261_eq _ _ _ _) ?_, ?_⟩
    · simp only [hv, st1, Token.cells, hk, Int.cast_ofNat_Int] at hl
      simp -implicitDefEqProofs [m261, ha, hB, lit261a, lit261b, lit261c, hl, hk, w1, XE.cells, XE.rows]
    · rw [if_pos hk]
      exact ⟨ha1, fun _ _ => ⟨rfl, rfl, rfl, rfl⟩, fun h => absurd rfl h⟩
  · have hk' : ¬ ((tk L a).kind : Int) = 2 := by omega
    obtain ⟨nm, a1, e1, p1, g1, s1⟩ := q148 hL hK (k := 1) (by decide) A _ a d 0 0 ha trivial (hv_KB (tok := tk L a) hB) (fun _ => rfl)
    have hp1 := s1.zero (fun _ => rfl)
    have hB2 : KB A (B ++ (hv A B (tk L a) ++ [.cells nm.cells])) := hB.app (by simp [hv])
    obtain ⟨k, l, a', e', p', C, g2, g3, g4, g5, g6, s2⟩ := hBh nm A _ a1 d e1 p1 s1.lt hd hB2 hp1
    refine ⟨.mk k nm.pos 0 nm.text l, a', e', p', evW_by (m261_eq _ _ _ _) ?_, ?_⟩
    · simp only [hv, st1, Int.cast_ofNat_Int, Token.cells, tEnc, List.cons_append, List.nil_append, List.append_assoc] at hl g1 g2
      simp -implicitDefEqProofs [m261, ha, hB, lit261a, lit261b, lit261c, hl, hk, hk', g1, g2, XE.cells, XE.rows_eq]
    · rw [if_neg hk]
      refine s1.bind ((g_kind hK (by omega)).dep ha) ?_
      by_cases he1 : e1 = 0
      · subst he1
        obtain ⟨d', hd'⟩ := s1.went
        have : nm = tk L a := by
          unfold pKind at hd'
          split at hd'
          · cases hd'; rfl
          · cases hd'
        rw [this] at s2 ⊢
        exact s2
      · exact s2.any he1

/-- What has no sign, nor a parenthesis, ahead. -/
theorem q261 {n0 : Nat} (hE : RCE L n0 233 [.int .i64 0] xEnc (pEx L n0)) (hBh : RCB L n0) {A B : List ABlk} {a d : Nat} (ha : a < L.length) (hd : n0 + 1 + d = 65) (hB : KB A B) (h40 : isS (tk L a) [40] = false) :
    ∃ v a' e' p', KK 261 [.ptr A.length 0, .str (textS (tk L a))] (RQ A L a d 0 0 B) = some (.ret (xEnc v), RQ A L a' d e' p' B) ∧ Step L (pPrimary L (pEx L n0)) a d 0 0 v a' e' p' := by
  have nk : ∀ {w : List UInt8}, isS (tk L a) w = true → ¬ (tk L a).kind = 2 := fun h h2 => by simp [isS, h2] at h
  have pick : ∀ (i : Nat) (w : List UInt8) (kd many : Nat), wordT[i]? = some (w, kd, many) → i < 5 → many ≤ 100 → w ≠ [] → textS (tk L a) = w →
      (∀ j, j < i → ∃ w' k m, wordT[j]? = some (w', k, m) ∧ w' ≠ w) →
      ∃ v a' e' p', KK 261 [.ptr A.length 0, .str (textS (tk L a))] (RQ A L a d 0 0 B) = some (.ret (xEnc v), RQ A L a' d e' p' B) ∧ Step L (pMade L (pEx L n0) kd many (decide (w = [114, 111, 114]))) a d 0 0 v a' e' p' := by
    intro i w kd many hT hi hm hne hw hf
    rw [hw]
    exact q261_word hL hK hE hT ha hd hB ((text_is hne).1 hw) hm hi hf
  have prim : ∀ {v : XE} {a' e' p' : Nat} {y : PM XE}, Step L y a d 0 0 v a' e' p' → pPrimary L (pEx L n0) a d = y a d → Step L (pPrimary L (pEx L n0)) a d 0 0 v a' e' p' := fun s h => s.congr h.symm
  have isn : ∀ {w w' : List UInt8}, isS (tk L a) w = true → w ≠ w' → isS (tk L a) w' = false := by
    intro w w' h hne
    simp only [isS, Bool.and_eq_true, decide_eq_true_eq] at h
    unfold isS
    rw [show decide ((tk L a).text = w') = false from decide_eq_false (fun h2 => hne (h.2.symm.trans h2)), Bool.and_false]
  by_cases h0 : textS (tk L a) = [109, 117, 108, 104, 105]
  · obtain ⟨v, a', e', p', g1, s1⟩ := pick 0 _ 23 2 rfl (by omega) (by omega) (by decide) h0 (fun j hj => absurd hj (by omega))
    have hs := (text_is (by decide)).1 h0
    refine ⟨v, a', e', p', g1, prim s1 ?_⟩
    simp only [pPrimary, pm_bind, PM.bind, pHere, nk hs, h40, hs, if_false, if_true, Bool.false_eq_true]
    rfl
  by_cases h1 : textS (tk L a) = [99, 97, 114, 114, 121]
  · obtain ⟨v, a', e', p', g1, s1⟩ := pick 1 _ 24 2 rfl (by omega) (by omega) (by decide) h1 (fun j hj => by
      obtain rfl : j = 0 := by omega
      exact ⟨_, _, _, rfl, by decide⟩)
    have hs := (text_is (by decide)).1 h1
    refine ⟨v, a', e', p', g1, prim s1 ?_⟩
    simp only [pPrimary, pm_bind, PM.bind, pHere, nk hs, h40, isn hs (w' := [109, 117, 108, 104, 105]) (by decide), hs, if_false, if_true, Bool.false_eq_true]
    rfl
  by_cases h2 : textS (tk L a) = [115, 101, 108, 101, 99, 116]
  · obtain ⟨v, a', e', p', g1, s1⟩ := pick 2 _ 25 3 rfl (by omega) (by omega) (by decide) h2 (fun j hj => by
      rcases (show j = 0 ∨ j = 1 by omega) with rfl | rfl <;> exact ⟨_, _, _, rfl, by decide⟩)
    have hs := (text_is (by decide)).1 h2
    refine ⟨v, a', e', p', g1, prim s1 ?_⟩
    simp only [pPrimary, pm_bind, PM.bind, pHere, nk hs, h40, isn hs (w' := [109, 117, 108, 104, 105]) (by decide), isn hs (w' := [99, 97, 114, 114, 121]) (by decide), hs, if_false, if_true, Bool.false_eq_true]
    rfl
  by_cases h3 : textS (tk L a) = [119, 111, 114, 100]
  · obtain ⟨v, a', e', p', g1, s1⟩ := pick 3 _ 26 1 rfl (by omega) (by omega) (by decide) h3 (fun j hj => by
      rcases (show j = 0 ∨ j = 1 ∨ j = 2 by omega) with rfl | rfl | rfl <;> exact ⟨_, _, _, rfl, by decide⟩)
    have hs := (text_is (by decide)).1 h3
    refine ⟨v, a', e', p', g1, prim s1 ?_⟩
    simp only [pPrimary, pm_bind, PM.bind, pHere, nk hs, h40, isn hs (w' := [109, 117, 108, 104, 105]) (by decide), isn hs (w' := [99, 97, 114, 114, 121]) (by decide), isn hs (w' := [115, 101, 108, 101, 99, 116]) (by decide), hs, if_false, if_true, Bool.false_eq_true]
    rfl
  by_cases h4 : textS (tk L a) = [114, 111, 114]
  · obtain ⟨v, a', e', p', g1, s1⟩ := pick 4 _ 16 1 rfl (by omega) (by omega) (by decide) h4 (fun j hj => by
      rcases (show j = 0 ∨ j = 1 ∨ j = 2 ∨ j = 3 by omega) with rfl | rfl | rfl | rfl <;> exact ⟨_, _, _, rfl, by decide⟩)
    have hs := (text_is (by decide)).1 h4
    refine ⟨v, a', e', p', g1, prim s1 ?_⟩
    simp only [pPrimary, pm_bind, PM.bind, pHere, nk hs, h40, isn hs (w' := [109, 117, 108, 104, 105]) (by decide), isn hs (w' := [99, 97, 114, 114, 121]) (by decide), isn hs (w' := [115, 101, 108, 101, 99, 116]) (by decide), isn hs (w' := [119, 111, 114, 100]) (by decide), hs, if_false, if_true, Bool.false_eq_true]
    rfl
  · obtain ⟨v, a', e', p', g1, s1⟩ := q261_else hL hK hBh (s := textS (tk L a)) ha hd hB (fun j hj => by
      rcases (show j = 0 ∨ j = 1 ∨ j = 2 ∨ j = 3 ∨ j = 4 by omega) with rfl | rfl | rfl | rfl | rfl
      · exact ⟨_, _, _, rfl, fun h => h0 h.symm⟩
      · exact ⟨_, _, _, rfl, fun h => h1 h.symm⟩
      · exact ⟨_, _, _, rfl, fun h => h2 h.symm⟩
      · exact ⟨_, _, _, rfl, fun h => h3 h.symm⟩
      · exact ⟨_, _, _, rfl, fun h => h4 h.symm⟩)
    have no : ∀ {w : List UInt8}, w ≠ [] → ¬ textS (tk L a) = w → isS (tk L a) w = false := by
      intro w hw h
      cases hs : isS (tk L a) w with
      | false => rfl
      | true => exact absurd ((text_is hw).2 hs) h
    refine ⟨v, a', e', p', g1, prim s1 ?_⟩
    simp only [pPrimary, pm_bind, PM.bind, pHere, h40, no (by decide) h0, no (by decide) h1, no (by decide) h2, no (by decide) h3, no (by decide) h4, if_false, Bool.false_eq_true]
    by_cases hk : (tk L a).kind = 2
    · rw [if_pos hk, if_pos hk]
    · rw [if_neg hk, if_neg hk]; rfl
end
end Go.Proofs.YtkeoalhglkfbkaaDoor

/-
  The document's parser: unary signs and parentheses, and so all expressions, by the evaluator. No conditions.
-/
namespace Go.Proofs.YtkeoalhglkfbkaaDoor
open Go Hk

section
variable {L : List Token} (hL : L.length ≤ 131072) (hK : TokOk L) (hW : WordOk L)

theorem r252b : RBad L (fun d => d ≤ 65) 252 [] (fun d => d) (xEnc xe0) := by
  intro A B a d e p ha hd hB he
  refine evW_by (m252_eq _ _ _) ?_
  have he' : ¬ (e : Int) = 0 := by omega
  simp -implicitDefEqProofs [m252, ha, hB, he, he', xEnc, xe0, XE.cells, XE.rows]

include hL hK
/-- A sign ahead. -/
theorem q252_sign {n0 : Nat} (hU : RCE L n0 252 [] xEnc (pUn L n0)) (s : List UInt8) (kd : Nat) (hk : (s = [126] ∧ kd = 5) ∨ (s = [45] ∧ kd = 6) ∨ (s = [33] ∧ kd = 7)) {A B : List ABlk} {a d : Nat} (ha : a < L.length) (hd : n0 + 1 + d = 65) (hB : KB A B) (ht : textS (tk L a) = s) :
    ∃ v a' e' p', KK 252 [.ptr A.length 0] (RQ A L a d 0 0 B) = some (.ret (xEnc v), RQ A L a' d e' p' B) ∧ Step L (pSign L (pUn L n0) kd) a d 0 0 v a' e' p' := by
  have hne : s ≠ [] := by rcases hk with ⟨rfl, _⟩ | ⟨rfl, _⟩ | ⟨rfl, _⟩ <;> decide
  have hg := g_un hK n0
  have htx : (tk L a).text = s := by
    have := (text_is hne).1 ht
    simp only [isS, Bool.and_eq_true, decide_eq_true_eq] at this
    exact this.2
  have w1 := wrapN (a := d) (by omega)
  have hC : ∀ k : Int, KB A (B ++ [.cells [.int .i64 0, .int .i64 0, .int .i64 0, .str [], .slice [] (.own (HN A B + 1))], .front 0 0, .cells [.int .i64 k, .int .i64 ((tk L a).pos : Int), .int .i64 0, .str [], .slice [] (.own (HN A B + 3))], .front 0 0]) := fun k => hB.app (by simp)
  have hC2 : KB A (B ++ [.cells [.int .i64 0, .int .i64 0, .int .i64 0, .str [], .slice [] (.own (HN A B + 1))], .front 0 0, .gone, .front 0 0]) := hB.app (by simp)
  have h184 := r184 (L := L) (d := d) (e := 0) (p := 0) ha (hC 0)
  rw [ht] at h184
  obtain ⟨u, a1, e1, p1, g1, s1⟩ := q186 hL hK (w := s) hne A _ a d 0 0 ha (by show d ≤ 64; omega) (hC kd) (fun _ => rfl)
  have hp1 := s1.zero (fun _ => rfl)
  have hn1 : e1 = 0 → 1 ≤ n0 := fun h => by subst h; have := (open_lt s1 (fun _ => rfl)).1; omega
  obtain ⟨v, a2, e2, p2, g2, s2⟩ := hU A _ a1 (d + 1) e1 p1 s1.lt (by omega) hn1 hC2 hp1
  refine ⟨.mk kd (tk L a).pos 0 [] [v], a2, e2, p2, evW_by (m252_eq _ _ _) ?_, ?_⟩
  · simp only [uEnc, xEnc] at g1 g2
    rcases hk with ⟨rfl, rfl⟩ | ⟨rfl, rfl⟩ | ⟨rfl, rfl⟩ <;> simp only [Int.cast_ofNat_Int] at g1 <;>
      simp -implicitDefEqProofs [m252, ha, hB, h184, g1, g2, RQ_push0, w1, XE.cells, XE.rows]
  · unfold pSign
    refine Step.here ?_
    rw [htx]
    refine s1.bind ((g_open hK).dep ha) (s2.bind (hg.dep s1.lt) (Step.bind (d1 := d) (v := ()) (a1 := a2) (e1 := e2) (p1 := p2) ?_ (fun v a' d' h => ?_) (Step.pure s2.lt)))
    · exact ⟨s2.lt, fun h1 h2 => ⟨rfl, rfl, h1, h2⟩, fun _ => ⟨rfl, rfl, rfl⟩⟩
    · cases h; rfl

theorem q252_one {n0 : Nat} (hU : RCE L n0 252 [] xEnc (pUn L n0)) (hE : RCE L n0 233 [.int .i64 0] xEnc (pEx L n0)) (hBh : RCB L n0) : ROE L (n0 + 1) 252 [] xEnc (pUn L (n0 + 1)) := by
  intro A B a d ha hd _ hB
  have un : ∀ {v : XE} {a' e' p' : Nat} {y : PM XE}, Step L y a d 0 0 v a' e' p' → pUn L (n0 + 1) a d = y a d → Step L (pUn L (n0 + 1)) a d 0 0 v a' e' p' := fun s h => s.congr h.symm
  have isn : ∀ {w w' : List UInt8}, isS (tk L a) w = true → w ≠ w' → isS (tk L a) w' = false := by
    intro w w' h hne
    simp only [isS, Bool.and_eq_true, decide_eq_true_eq] at h
    unfold isS
    rw [show decide ((tk L a).text = w') = false from decide_eq_false (fun h2 => hne (h.2.symm.trans h2)), Bool.and_false]
  have no : ∀ {w : List UInt8}, w ≠ [] → ¬ textS (tk L a) = w → isS (tk L a) w = false := by
    intro w hw h
    cases hs : isS (tk L a) w with
    | false => rfl
    | true => exact absurd ((text_is hw).2 hs) h
  by_cases h1 : textS (tk L a) = [126]
  · obtain ⟨v, a', e', p', g1, s1⟩ := q252_sign hL hK hU [126] 5 (.inl ⟨rfl, rfl⟩) ha hd hB h1
    refine ⟨v, a', e', p', g1, un s1 ?_⟩
    simp only [pUn, pUnary, pm_bind, PM.bind, pHere, (text_is (by decide)).1 h1, if_true]
  by_cases h2 : textS (tk L a) = [45]
  · obtain ⟨v, a', e', p', g1, s1⟩ := q252_sign hL hK hU [45] 6 (.inr (.inl ⟨rfl, rfl⟩)) ha hd hB h2
    refine ⟨v, a', e', p', g1, un s1 ?_⟩
    simp only [pUn, pUnary, pm_bind, PM.bind, pHere, no (by decide) h1, (text_is (by decide)).1 h2, if_true, if_false, Bool.false_eq_true]
  by_cases h3 : textS (tk L a) = [33]
  · obtain ⟨v, a', e', p', g1, s1⟩ := q252_sign hL hK hU [33] 7 (.inr (.inr ⟨rfl, rfl⟩)) ha hd hB h3
    refine ⟨v, a', e', p', g1, un s1 ?_⟩
    simp only [pUn, pUnary, pm_bind, PM.bind, pHere, no (by decide) h1, no (by decide) h2, (text_is (by decide)).1 h3, if_true, if_false, Bool.false_eq_true]
  have hg := g_ex hK n0
  have hC : KB A (B ++ [.cells [.int .i64 0, .int .i64 0, .int .i64 0, .str [], .slice [] (.own (HN A B + 1))], .front 0 0, .cells [.int .i64 0, .int .i64 ((tk L a).pos : Int), .int .i64 0, .str [], .slice [] (.own (HN A B + 3))], .front 0 0]) := hB.app (by simp)
  have h184 := r184 (L := L) (d := d) (e := 0) (p := 0) ha hC
  have hun : pUn L (n0 + 1) a d = pPrimary L (pEx L n0) a d := by
    simp only [pUn, pUnary, pm_bind, PM.bind, pHere, no (by decide) h1, no (by decide) h2, no (by decide) h3, if_false, Bool.false_eq_true]
    rfl
  by_cases h4 : textS (tk L a) = [40]
  · have h4s := (text_is (by decide)).1 h4
    have hk2 : ¬ (tk L a).kind = 2 := fun h2 => by simp [isS, h2] at h4s
    rw [h4] at h184
    obtain ⟨u, a1, e1, p1, g1, s1⟩ := q186 hL hK (w := [40]) (by decide) A _ a d 0 0 ha (by show d ≤ 64; omega) hC (fun _ => rfl)
    have hp1 := s1.zero (fun _ => rfl)
    have hn1 : e1 = 0 → 1 ≤ n0 := fun h => by subst h; have := (open_lt s1 (fun _ => rfl)).1; omega
    obtain ⟨v, a2, e2, p2, g2, s2⟩ := hE A _ a1 (d + 1) e1 p1 s1.lt (by omega) hn1 hC hp1
    have hp2 := s2.zero hp1
    have hC3 : KB A (B ++ [.cells [.int .i64 0, .int .i64 0, .int .i64 0, .str [], .slice [] (.own (HN A B + 1))], .front 0 0, .cells [.int .i64 0, .int .i64 ((tk L a).pos : Int), .int .i64 0, .str [], .slice [] (.own (HN A B + 3))], .front 0 0, .cells v.cells, .front 0 0]) := hB.app (by simp)
    obtain ⟨u3, a3, e3, p3, g3, s3⟩ := q188 hL hK (w := [41]) (by decide) A _ a2 (d + 1) e2 p2 s2.lt (by show 1 ≤ d + 1 ∧ d + 1 ≤ 1000; omega) hC3 hp2
    refine ⟨v, a3, e3, p3, evW_by (m252_eq _ _ _) ?_, un (y := pOpen L [40] >>= fun _ => pEx L n0 >>= fun x => pShut L [41] >>= fun _ => pure x) ?_ ?_⟩
    · simp only [uEnc, xEnc, Nat.add_sub_cancel] at g1 g2 g3
      simp -implicitDefEqProofs [m252, ha, hB, h184, g1, g2, g3]
    · exact s1.bind ((g_open hK).dep ha) (s2.bind (hg.dep s1.lt) (s3.bind ((g_shut hK).dep s2.lt) (Step.pure s3.lt)))
    · rw [hun]
      simp only [pPrimary, pm_bind, PM.bind, pHere, hk2, h4s, if_true, if_false]
  · have h4s := no (by decide) h4
    obtain ⟨v, a', e', p', g1, s1⟩ := q261 hL hK hE hBh (n0 := n0) ha hd hC h4s
    refine ⟨v, a', e', p', evW_by (m252_eq _ _ _) ?_, un s1 hun⟩
    simp only [xEnc] at g1
    simp -implicitDefEqProofs [m252, ha, hB, h184, h1, h2, h3, h4, g1]

include hW
/-- All expressions. -/
theorem q252 : ∀ n, RCE L n 252 [] xEnc (pUn L n)
  | 0 => fun A B a d e p ha hn he hB hp => by
    have h0 : e ≠ 0 := fun h => absurd (he h) (by omega)
    exact ⟨xe0, a, e, p, r252b A B a d e p ha (by show d ≤ 65; omega) hB h0, Step.stay ha h0⟩
  | n + 1 => by
    have hU := q252 n
    have hE := q233_all hL hK hW hU
    exact .of (q252_one hL hK hU hE (q254 hL hK hE)) r252b
theorem qEx (n : Nat) : RCE L n 233 [.int .i64 0] xEnc (pEx L n) := q233_all hL hK hW (q252 hL hK hW n)
theorem qBh (n : Nat) : RCB L n := q254 hL hK (qEx hL hK hW n)
end
end Go.Proofs.YtkeoalhglkfbkaaDoor

/-
  The document's parser: the value at a statement's end, by the evaluator. No conditions.
-/
namespace Go.Proofs.YtkeoalhglkfbkaaDoor
open Go Hk

theorem push_nil {x : XE} {t : Tok} {h : Heap} : aappend 5 64 h (.slice [] .nil) (.slice [x.cells] t) = some (.slice [x.cells] (.own h.length), h ++ [.front 1 5]) := by
  simp [aappend, arowsS]

section
variable {L : List Token} (hL : L.length ≤ 131072) (hK : TokOk L) (hW : WordOk L)
include hL hK hW

/-- A value, and the list it makes. -/
theorem q232 (n : Nat) : RCE L n 232 [.slice [] .nil] lEnc (pEnd L n) := by
  intro A B a d e p ha hn he hB hp
  have hC : KB A (B ++ [.front 0 0]) := hB.app (by simp)
  obtain ⟨v, a1, e1, p1, g1, s1⟩ := qEx hL hK hW n A _ a d e p ha hn he hC hp
  have hp1 := s1.zero hp
  have hC2 : KB A (B ++ [.front 0 0, .cells v.cells, .front 0 0]) := hB.app (by simp)
  obtain ⟨u, a2, e2, p2, g2, s2⟩ := q147 hL hK (w := [59]) (by decide) A _ a1 d e1 p1 s1.lt trivial hC2 hp1
  refine ⟨[v], a2, e2, p2, evW_by (m232_eq _ _ _ _) ?_, ?_⟩
  · simp only [xEnc, uEnc] at g1 g2
    have ht := fun C => RQ_trunc (L := L) (a := a2) (d := d) (er := e2) (p := p2) (C := C) hB
    simp -implicitDefEqProofs [m232, hB, g1, g2, push_nil, lEnc, finG, ht]
  · unfold pEnd
    exact s1.bind ((g_ex hK n).dep ha) (s2.bind ((g_take hK).dep s1.lt) (Step.pure s2.lt))

theorem q232g (n : Nat) {A B B2 : List ABlk} {a d e p j : Nat} {rows : List (List AVal)} (ha : a < L.length) (hn : n + d = 65) (he : e = 0 → 1 ≤ n) (hB : KB A B) (hB2 : KB A B2) (hlen : HN A B2 = HN A B) (hj : j < HN A B) (hp : e = 0 → p = 0)
    (hpush : ∀ a e p D t (x : XE), aappend 5 64 (RQ A L a d e p (B ++ D)) (.slice rows (.own j)) (.slice [x.cells] t) = some (.slice (rows ++ [x.cells]) (.own j), RQ A L a d e p (B2 ++ D))) :
    ∃ x a' e' p', KK 232 [.ptr A.length 0, .slice rows (.own j)] (RQ A L a d e p B) = some (.ret (.slice (rows ++ [XE.cells x]) (.own j)), RQ A L a' d e' p' B2) ∧ Step L (pEnd L n) a d e p [x] a' e' p' := by
  have hC : KB A (B ++ [.front 0 0]) := hB.app (by simp)
  obtain ⟨v, a1, e1, p1, g1, s1⟩ := qEx hL hK hW n A _ a d e p ha hn he hC hp
  have hp1 := s1.zero hp
  have hC2 : KB A (B ++ [.front 0 0, .cells v.cells, .front 0 0]) := hB.app (by simp)
  obtain ⟨u, a2, e2, p2, g2, s2⟩ := q147 hL hK (w := [59]) (by decide) A _ a1 d e1 p1 s1.lt trivial hC2 hp1
  refine ⟨v, a2, e2, p2, evW_by (m232_eq _ _ _ _) ?_, ?_⟩
  · simp only [xEnc, uEnc] at g1 g2
    have ht := fun C => RQ_trunc (L := L) (a := a2) (d := d) (er := e2) (p := p2) (C := C) hB2
    rw [hlen] at ht
    simp -implicitDefEqProofs [m232, hB, g1, g2, hpush, finG, ht, hj]
  · unfold pEnd
    exact s1.bind ((g_ex hK n).dep ha) (s2.bind ((g_take hK).dep s1.lt) (Step.pure s2.lt))
end
end Go.Proofs.YtkeoalhglkfbkaaDoor

/-
  The document's parser: a statement that begins with a name, by the evaluator. No conditions.
-/
namespace Go.Proofs.YtkeoalhglkfbkaaDoor
open Go Hk

def sA (A B : List ABlk) (k : Int) (pos : Nat) (nm : List UInt8) (s7 : AVal) : List AVal := [.int .i64 k, .int .i64 (pos : Int), .int .i64 0, .str nm, .int .i64 0, .int .i64 0, .int .i64 0, s7, .slice [] (.own (HN A B + 6)), .slice [] (.own (HN A B + 7)), .bool false]
def sD (A B : List ABlk) (pos : Nat) (x : ABlk) : List ABlk := [.cells [.int .i64 0, .int .i64 0, .int .i64 0, .str [], .int .i64 0, .int .i64 0, .int .i64 0, .slice [] (.own (HN A B + 1)), .slice [] (.own (HN A B + 2)), .slice [] (.own (HN A B + 3)), .bool false], .front 0 0, .front 0 0, .front 0 0,
  .cells (sA A B 0 pos [] (.slice [] (.own (HN A B + 5)))), x, .front 0 0, .front 0 0]
/-- What 'named' has. -/
def nD (A B : List ABlk) (k : Int) (pos : Nat) (nm : List UInt8) (s7 : AVal) : List ABlk := [.cells (sA A B k pos nm s7),
  .cells [.int .i64 0, .int .i64 0, .int .i64 0, .str [], .int .i64 0, .int .i64 0, .int .i64 0, .slice [] (.own (HN A B + 10)), .slice [] (.own (HN A B + 11)), .slice [] (.own (HN A B + 12)), .bool false], .front 0 0, .front 0 0, .front 0 0]
def nG (A B : List ABlk) : List ABlk := [.gone,
  .cells [.int .i64 0, .int .i64 0, .int .i64 0, .str [], .int .i64 0, .int .i64 0, .int .i64 0, .slice [] (.own (HN A B + 10)), .slice [] (.own (HN A B + 11)), .slice [] (.own (HN A B + 12)), .bool false], .front 0 0, .front 0 0, .front 0 0]

def nC (tok R : List AVal) (c s : Nat) (E : List ABlk) : List ABlk := .cells tok :: .cells tok :: .cells R :: .front 0 0 :: .cells R :: .front c s :: E

section
variable {A B C : List ABlk} {L : List Token} {a d er p k : Nat} {t : Tok} {r : List AVal}
theorem RQ_push0r (hr : r.length = 5) (hc : C[k]? = some (.front 0 0)) : aappend 5 64 (RQ A L a d er p (B ++ C)) (.slice [] (.own (HN A B + k))) (.slice [r] t) = some (.slice [r] (.own (HN A B + k)), RQ A L a d er p (B ++ C.set k (.front 1 5))) := by
  have := RQ_app1 (A := A) (B := B) (L := L) (a := a) (d := d) (er := er) (p := p) (C := C) (k := k) (rows := []) (new := [r]) (sz := 5) (by_ := 64) (sz' := 0) (t := t)
    hc (.inr ⟨rfl, rfl⟩) (by simp [hr]) (by simp) (by simp) (by simp)
  simpa using this
theorem sD_trunc {pos : Nat} {x : ABlk} (hB : KB A B) (hx : x = .front 0 0 ∨ x = .front 1 5) : trunc (HN A B + 8) (RQ A L a d er p (B ++ (sD A B pos x ++ C))) = some (RQ A L a d er p (B ++ sD A B pos x)) := by
  have := RQ_truncK (L := L) (a := a) (d := d) (er := er) (p := p) (A := A) (B := B) (C := sD A B pos x ++ C) (k := 8) (by rcases hx with rfl | rfl <;> simpa [sD, sA] using hB.app (by simp)) (by simp [sD])
  simpa [sD] using this
end

theorem build_own {k q : Int} {nm : List UInt8} {rows : List (List AVal)} {id : Nat} {h : Heap} : abuildSlice 1 5 [.int .i64 0, .int .i64 0, .int .i64 0, .str [], .slice [] .nil] [(0, .agg [.int .i64 k, .int .i64 q, .int .i64 0, .str nm, .slice rows (.own id)])] h =
    some (.slice [[.int .i64 k, .int .i64 q, .int .i64 0, .str nm, .slice rows .no]] (.own h.length), h ++ [.front 1 5]) := (rfl)

theorem behind_ix {L : List Token} {ex : PM XE} {nm : Token} {a d e' p' a' k : Nat} {l : List XE} (s : Step L (pBehind L ex nm) a d 0 0 (.mk k nm.pos 0 nm.text l) a' e' p') (h1 : isS (tk L a) [40] = false) (h2 : isS (tk L a) [91] = true) : Step L (pIndex L ex) a d 0 0 l a' e' p' := by
  refine ⟨s.lt, fun he hp => ?_, fun h => absurd rfl h⟩
  have h := s.ok rfl rfl
  have e : pBehind L ex nm a d = match pIndex L ex a d with
      | .ok v a' d' => .ok (.mk 3 nm.pos 0 nm.text v) a' d'
      | .bad e p a' d' => .bad e p a' d' := by
    simp only [pBehind, pm_bind, PM.bind, pIs, h1, h2, if_true, if_false, Bool.false_eq_true]
    cases pIndex L ex a d <;> rfl
  rw [e] at h
  unfold Agree at h ⊢
  cases hx : pIndex L ex a d with
  | ok v a0 d0 =>
    rw [hx] at h
    obtain ⟨h1, h2, h3, h4⟩ := h
    refine ⟨?_, h2, h3, h4⟩
    simp at h1
    exact h1.2
  | bad e0 p0 a0 d0 => rw [hx] at h; exact h
theorem behind_call {L : List Token} {ex : PM XE} {nm : Token} {a d e p e' p' a' : Nat} {v : XE} (s : Step L (pBehind L ex nm) a d e p v a' e' p') (h1 : isS (tk L a) [40] = true) : Step L (pCall L ex nm) a d e p v a' e' p' :=
  s.congr (by simp only [pBehind, pm_bind, PM.bind, pIs, h1, if_true])

section
variable {L : List Token} (hL : L.length ≤ 131072) (hK : TokOk L) (hW : WordOk L)
include hL hK hW

set_option maxHeartbeats 1000000 in
theorem q234 {n : Nat} {A B : List ABlk} {pos a d e p : Nat} (ha : a < L.length) (hd : n + d = 65) (he : e = 0 → 1 ≤ n) (hB : KB A B) (hp : e = 0 → p = 0) :
    ∃ k nm l t x a' e' p', KK 234 [.ptr A.length 0, .agg (sA A B 0 pos [] (.slice [] (.own (HN A B + 5))))] (RQ A L a d e p (B ++ sD A B pos (.front 0 0))) =
        some (.ret (.agg (sA A B (k : Nat) pos nm (.slice (l.map XE.cells) t))), RQ A L a' d e' p' (B ++ sD A B pos x)) ∧
      (t = .no ∧ x = .front 0 0 ∨ t = .own (HN A B + 5) ∧ x = .front 1 5) ∧ Step L (pNamed L n pos) a d e p (.mk k pos 0 nm ⟨0, 0, 0⟩ l [] [] false) a' e' p' := by
  have hC1 : KB A (B ++ (sD A B pos (.front 0 0) ++ nD A B 0 pos [] (.slice [] (.own (HN A B + 5))))) := hB.app (by simp [sD, nD, sA])
  obtain ⟨nm, a1, e1, p1, g1, s1⟩ := q148 hL hK (k := 1) (by decide) A _ a d e p ha trivial hC1 hp
  have hp1 := s1.zero hp
  have hn1 : e1 = 0 → 1 ≤ n := fun h => by
    by_cases h0 : e = 0
    · exact he h0
    · have := (s1.bad h0).2.1; omega
  have hC2 : KB A (B ++ (sD A B pos (.front 0 0) ++ (nD A B 0 pos [] (.slice [] (.own (HN A B + 5))) ++ [.cells nm.cells]))) := hB.app (by simp [sD, nD, sA])
  have h40 := q149 (L := L) (d := d) (w := [40]) (by decide) s1.lt hC2 hp1
  have h91 := q149 (L := L) (d := d) (w := [91]) (by decide) s1.lt hC2 hp1
  have hge := g_end hK n
  cases hs : see e1 (tk L a1) [40]
  · cases hs2 : see e1 (tk L a1) [91]
    · -- a name that is given a value
      have hC3 : KB A (B ++ (sD A B pos (.front 0 0) ++ (nD A B 3 pos nm.text (.slice [] (.own (HN A B + 5))) ++ [.cells nm.cells]))) := hB.app (by simp [sD, nD, sA])
      obtain ⟨u, a2, e2, p2, g2, s2⟩ := q147 hL hK (w := [61]) (by decide) A _ a1 d e1 p1 s1.lt trivial hC3 hp1
      have hp2 := s2.zero hp1
      have hn2 : e2 = 0 → 1 ≤ n := fun h => by
        by_cases h0 : e1 = 0
        · exact hn1 h0
        · have := (s2.bad h0).2.1; omega
      obtain ⟨l, a3, e3, p3, g3, s3⟩ := q232 hL hK hW n A _ a2 d e2 p2 s2.lt hd hn2 hC3 hp2
      refine ⟨3, nm.text, l, .no, .front 0 0, a3, e3, p3, evW_by (m234_eq _ _ _ _) ?_, .inl ⟨rfl, rfl⟩, ?_⟩
      · have ht := fun C => sD_trunc (L := L) (a := a3) (d := d) (er := e3) (p := p3) (C := C) (pos := pos) hB (.inl rfl)
        simp only [hs, hs2, sD, nD, sA, List.cons_append, List.nil_append, Token.cells, tEnc, uEnc, lEnc, Int.cast_ofNat_Int] at g1 h40 h91 g2 g3 ht ⊢
        simp -implicitDefEqProofs [m234, hB, g1, h40, h91, g2, g3, ht, finG]
      · unfold pNamed
        refine s1.bind ((g_kind hK (by omega)).dep ha) (Step.sees hL hK ?_)
        simp only [hs, Bool.false_eq_true, if_false]
        refine Step.sees hL hK ?_
        simp only [hs2, Bool.false_eq_true, if_false]
        exact s2.bind ((g_take hK).dep s1.lt) (s3.bind (hge.dep s2.lt) (Step.pure s3.lt))
    · -- a place
      obtain ⟨he1, hs3, ha1⟩ := see_lt hL hK s1.lt hs2
      subst he1
      have := hp1 rfl
      subst this
      obtain ⟨n0, rfl⟩ : ∃ n0, n = n0 + 1 := ⟨n - 1, by have := hn1 rfl; omega⟩
      have hs40 : isS (tk L a1) [40] = false := by simpa [see] using hs
      have hC3 : KB A (B ++ (sD A B pos (.front 0 0) ++ (nD A B 4 pos nm.text (.slice [] (.own (HN A B + 5))) ++ [.cells nm.cells]))) := hB.app (by simp [sD, nD, sA])
      obtain ⟨k, l, a2, e2, p2, C, g2, _, ⟨R, hR1, hR2, hC⟩, _, hl, s2⟩ := qBh hL hK hW n0 nm A _ a1 d 0 0 s1.lt hd hC3 (fun _ => rfl)
      have hp2 := s2.zero (fun _ => rfl)
      have s2' := behind_ix s2 hs40 hs3
      have hm : HN A (B ++ (sD A B pos (.front 0 0) ++ (nD A B 4 pos nm.text (.slice [] (.own (HN A B + 5))) ++ [.cells nm.cells]))) = HN A B + 14 := by simp [sD, nD]
      rw [hm] at g2 hR2
      have hR : ∀ k, 19 ≤ k → CBn (HN A B + k) R := fun k hk m h hm => hR2 m h (by omega)
      obtain ⟨E0, hE0, rfl⟩ : ∃ E0 : List ABlk, (E0 = [] ∨ E0 = [.front 1 5]) ∧ C = .cells nm.cells :: .cells R :: .front 0 0 :: .cells R :: .front l.length (fsz l.length 5) :: E0 := by
        rcases hC with rfl | rfl
        · exact ⟨[], .inl rfl, rfl⟩
        · exact ⟨[.front 1 5], .inr rfl, rfl⟩
      have hC4 : ∀ c s, KB A (B ++ (sD A B pos (.front 0 0) ++ (nD A B 4 pos nm.text (.slice [] (.own (HN A B + 5))) ++ nC nm.cells R c s (E0 ++ [.cells [.int .i64 (k : Int), .int .i64 (nm.pos : Int), .int .i64 0, .str nm.text, .slice (l.map XE.cells) (.own (HN A B + 18))], .front 0 0])))) := fun c s => hB.app (by
        rcases hE0 with rfl | rfl <;> simp [sD, nD, sA, nC, hR])
      obtain ⟨u, a3, e3, p3, g3, s3⟩ := q147 hL hK (w := [61]) (by decide) A _ a2 d e2 p2 s2.lt trivial (hC4 l.length (fsz l.length 5)) hp2
      have hp3 := s3.zero hp2
      obtain ⟨x, a4, e4, p4, g4, s4⟩ := q232g hL hK hW (n0 + 1) (rows := l.map XE.cells) (j := HN A B + 18) s3.lt hd (fun _ => by omega) (hC4 l.length (fsz l.length 5)) (hC4 (l.length + 1) 5) (by simp [sD, nD, nC]) (by rcases hE0 with rfl | rfl <;> simp [sD, nD, nC]) hp3
        (fun a e p D t x => by
          rw [List.append_assoc B, RQ_pushL l (k := 18) rfl (by omega), List.append_assoc B, List.map_append]; rfl)
      refine ⟨4, nm.text, l ++ [x], .no, .front 0 0, a4, e4, p4, evW_by (m234_eq _ _ _ _) ?_, .inl ⟨rfl, rfl⟩, ?_⟩
      · have ht := fun C => sD_trunc (L := L) (a := a4) (d := d) (er := e4) (p := p4) (C := C) (pos := pos) hB (.inl rfl)
        have hmap : (l ++ [x]).map XE.cells = l.map XE.cells ++ [x.cells] := by simp
        rw [hmap]
        rcases hE0 with rfl | rfl <;>
        · simp only [hs, hs2, sD, nD, sA, nC, List.cons_append, List.nil_append, Token.cells, tEnc, uEnc, lEnc, Int.cast_ofNat_Int] at g1 h40 h91 g2 g3 g4 ht ⊢
          simp -implicitDefEqProofs [m234, hB, g1, h40, h91, g2, g3, g4, ht, finG]
      · unfold pNamed
        refine s1.bind ((g_kind hK (by omega)).dep ha) (Step.sees hL hK ?_)
        simp only [hs, Bool.false_eq_true, if_false]
        refine Step.sees hL hK ?_
        simp only [hs2, if_true]
        exact s2'.bind ((g_index hK (g_ex hK n0)).dep s1.lt) (s3.bind ((g_take hK).dep s2.lt) (s4.bind (hge.dep s3.lt) (Step.pure s4.lt)))
  · -- a call
    obtain ⟨he1, hs3, ha1⟩ := see_lt hL hK s1.lt hs
    subst he1
    have := hp1 rfl
    subst this
    obtain ⟨n0, rfl⟩ : ∃ n0, n = n0 + 1 := ⟨n - 1, by have := hn1 rfl; omega⟩
    have hC3 : KB A (B ++ (sD A B pos (.front 0 0) ++ (nG A B ++ [.cells nm.cells]))) := hB.app (by simp [sD, nG, sA])
    obtain ⟨k, l, a2, e2, p2, C, g2, _, ⟨R, hR1, hR2, hC⟩, _, hl, s2⟩ := qBh hL hK hW n0 nm A _ a1 d 0 0 s1.lt hd hC3 (fun _ => rfl)
    have hp2 := s2.zero (fun _ => rfl)
    have s2' := behind_call s2 hs3
    have hm : HN A (B ++ (sD A B pos (.front 0 0) ++ (nG A B ++ [.cells nm.cells]))) = HN A B + 14 := by simp [sD, nG]
    rw [hm] at g2 hR2
    have hR : ∀ k, 19 ≤ k → CBn (HN A B + k) R := fun k hk m h hm => hR2 m h (by omega)
    obtain ⟨E0, hE0, rfl⟩ : ∃ E0 : List ABlk, (E0 = [] ∨ E0 = [.front 1 5]) ∧ C = .cells nm.cells :: .cells R :: .front 0 0 :: .cells R :: .front l.length (fsz l.length 5) :: E0 := by
      rcases hC with rfl | rfl
      · exact ⟨[], .inl rfl, rfl⟩
      · exact ⟨[.front 1 5], .inr rfl, rfl⟩
    have hC4 : KB A (B ++ (sD A B pos (.front 1 5) ++ (nD A B 7 pos [] (.slice [[.int .i64 (k : Int), .int .i64 (nm.pos : Int), .int .i64 0, .str nm.text, .slice (l.map XE.cells) .no]] (.own (HN A B + 5))) ++ nC nm.cells R l.length (fsz l.length 5) (E0 ++ [.front 1 5])))) := hB.app (by
      rcases hE0 with rfl | rfl <;> simp [sD, nD, sA, nC, hR])
    obtain ⟨u, a3, e3, p3, g3, s3⟩ := q147 hL hK (w := [59]) (by decide) A _ a2 d e2 p2 s2.lt trivial hC4 hp2
    refine ⟨7, [], [.mk k nm.pos 0 nm.text l], .own (HN A B + 5), .front 1 5, a3, e3, p3, evW_by (m234_eq _ _ _ _) ?_, .inr ⟨rfl, rfl⟩, ?_⟩
    · have ht := fun C => sD_trunc (L := L) (a := a3) (d := d) (er := e3) (p := p3) (C := C) (pos := pos) hB (.inr rfl)
      rcases hE0 with rfl | rfl <;>
      · simp only [hs, sD, nD, nG, sA, nC, List.cons_append, List.nil_append, Token.cells, tEnc, uEnc, lEnc, Int.cast_ofNat_Int] at g1 h40 g2 g3 ht ⊢
        simp -implicitDefEqProofs [m234, hB, g1, h40, g2, g3, ht, finG, build_own, RQ_push0r, XE.cells, XE.rows_eq]
    · unfold pNamed
      refine s1.bind ((g_kind hK (by omega)).dep ha) (Step.sees hL hK ?_)
      simp only [hs, if_true]
      exact s2'.bind ((g_call hK (g_ex hK n0)).dep s1.lt) (s3.bind ((g_take hK).dep s2.lt) (Step.pure s3.lt))
end
end Go.Proofs.YtkeoalhglkfbkaaDoor

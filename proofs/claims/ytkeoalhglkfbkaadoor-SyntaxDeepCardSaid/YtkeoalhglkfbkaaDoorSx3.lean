/-
  The texts SX.Z2, SX.Z3, one behind another. No conditions.
-/
import Derived.Test.YtkeoalhglkfbkaaDoorSx2
set_option linter.unusedVariables false
set_option linter.unusedSimpArgs false
/-
  THE PLAIN LAW of SyntaxDeep: nests are right just if they are not deeper than 64. No program in sight. No conditions.
-/
namespace Go.Proofs.YtkeoalhglkfbkaaDoor
open Go Hk

section
variable {L : List Token} {t : Token} {X : List Token} {a d n : Nat}
theorem tk_drop (hd : L.drop a = t :: X) : tk L a = t := by
  have : L[a]? = some t := by rw [← List.head?_drop, hd]; rfl
  simp [tk, this]
theorem tdrop_one (hd : L.drop a = t :: X) : L.drop (a + 1) = X := by
  rw [← List.drop_drop, hd]; rfl
theorem tdrop_add {l r : List Token} (hd : L.drop a = l ++ r) : L.drop (a + l.length) = r := by
  rw [← List.drop_drop, hd, List.drop_left]

def NoOp (t : Token) : Prop := ∀ k, signOf t k = none

theorem join_none {next : PM XE} {k m : Nat} {x : XE} (h : NoOp (tk L a)) : pJoin L next k (m + 1) x a d = .ok x a d := by
  unfold NoOp at h
  simp [pJoin, pm_bind, PM.bind, pHere, h, pm_pure]
theorem chain_of {un : PM XE} {v : XE} {a' d' : Nat} (h : un a d = .ok v a' d') (hn : NoOp (tk L a')) : ∀ j, pChain L un j a d = .ok v a' d'
  | 0 => h
  | j + 1 => by
    have ih := chain_of h hn j
    simp only [pChain, pm_bind, PM.bind, ih]
    exact join_none hn
theorem chain_bad {un : PM XE} {e p a' d' : Nat} (h : un a d = .bad e p a' d') : ∀ j, pChain L un j a d = .bad e p a' d'
  | 0 => h
  | j + 1 => by
    have ih := chain_bad h j
    simp only [pChain, pm_bind, PM.bind, ih]
theorem ex_of {v : XE} {a' d' : Nat} (h : pUn L n a d = .ok v a' d') (hn : NoOp (tk L a')) : pEx L n a d = .ok v a' d' := by
  unfold pEx pExpr
  simp only [pm_bind, PM.bind, chain_of h hn 6, pHere]
  have := hn 0
  simp only [this]
  rfl
theorem ex_bad {e p a' d' : Nat} (h : pUn L n a d = .bad e p a' d') : pEx L n a d = .bad e p a' d' := by
  unfold pEx pExpr
  simp only [pm_bind, PM.bind, chain_bad h 6]

theorem un_num {p v : Nat} (hd : L.drop a = ⟨2, p, v, []⟩ :: X) : pUn L (n + 1) a d = .ok (.mk 1 p v [] []) (a + 1) d := by
  have h := tk_drop hd
  simp [pUn, pUnary, pPrimary, pm_bind, PM.bind, pHere, pNext, isS, h, pm_pure]

theorem more_one {one : PM XE} {v : XE} {a' d' : Nat} (h : one a d = .ok v a' d') (hc : isS (tk L a') [44] = false) : pMore L one 131073 [] a d = .ok [v] a' d' := by
  show pMore L one (131072 + 1) [] a d = _
  rw [pMore_eq, h]
  simp [hc]
theorem more_bad {one : PM XE} {e p a' d' : Nat} (h : one a d = .bad e p a' d') : pMore L one 131073 [] a d = .bad e p a' d' := by
  show pMore L one (131072 + 1) [] a d = _
  rw [pMore_eq, h]

theorem list_more {α : Type} {w : List UInt8} {one : PM α} (h : isS (tk L a) w = false) : pList L w one a d = pMore L one 131073 [] a d := by
  simp [pList, pm_bind, PM.bind, pIs, h]
theorem stmts_eq {st : PM XS} {m : Nat} {l : List XS} : pStmts L st (m + 1) l a d = if isS (tk L a) [125] = true then .ok l a d else match st a d with
    | .ok x a1 d1 => pStmts L st m (l ++ [x]) a1 d1
    | .bad e p a1 d1 => .bad e p a1 d1 := by
  rw [pStmts]
  simp only [pm_bind, PM.bind, pIs]
  cases h : isS (tk L a) [125] <;> simp [PM.bind, pm_pure]
  cases st a d <;> rfl
theorem block_eq : pBlock L (n + 1) a d = match pOpen L [123] a d with
    | .ok _ a1 d1 => (match pStmts L (pStmt L (pBlock L n) n) 131073 [] a1 d1 with
      | .ok l a2 d2 => (match pShut L [125] a2 d2 with
        | .ok _ a3 d3 => .ok l a3 d3
        | .bad e p a3 d3 => .bad e p a3 d3)
      | .bad e p a2 d2 => .bad e p a2 d2)
    | .bad e p a1 d1 => .bad e p a1 d1 := by
  rw [pBlock]
  simp only [pm_bind, PM.bind]
  cases pOpen L [123] a d with
  | bad e p a1 d1 => rfl
  | ok v a1 d1 =>
    simp only
    cases pStmts L (pStmt L (pBlock L n) n) 131073 [] a1 d1 with
    | bad e p a1 d1 => rfl
    | ok v a1 d1 =>
      simp only
      cases pShut L [125] a1 d1 <;> rfl
theorem funcs_eq {m : Nat} {l : List XF} : pFuncs L (m + 1) l a d = if (tk L a).kind = 0 then .ok l a d else match pFunc L a d with
    | .ok x a1 d1 => pFuncs L m (l ++ [x]) a1 d1
    | .bad e p a1 d1 => .bad e p a1 d1 := by
  rw [pFuncs]
  simp only [pm_bind, PM.bind, pHere]
  by_cases h : (tk L a).kind = 0 <;> simp [h, PM.bind, pm_pure]
  cases pFunc L a d <;> rfl

/-- What closes a nest of this kind. -/
def Cl (k : UK) (t : Token) : Prop := k.c = 1 → t.kind = 4 ∧ t.text = [k.cl]

theorem unit_ok (k : UK) {p a' : Nat} {v : XE} (hd : L.drop a = k.toks p ++ X) (hx : isS (tk L (a + k.w)) [41] = false) (hdeep : d + k.each ≤ 64)
    (hin : pUn L n (a + k.w) (d + k.each) = .ok v a' (d + k.each)) (hn : NoOp (tk L a')) (hc : Cl k (tk L a')) : ∃ v', pUn L (n + k.each) a d = .ok v' (a' + k.c) d := by
  have he := ex_of hin hn
  cases k with
  | par =>
    have h0 := tk_drop hd
    obtain ⟨c1, c2⟩ := hc rfl
    simp only [UK.each, UK.w, UK.c, UK.cl] at *
    change pEx L n _ _ = _ at he
    unfold pEx at he
    have hd64 : ¬ d = 64 := by omega
    refine ⟨v, ?_⟩
    simp [pUn, pUnary, pPrimary, pm_bind, PM.bind, pHere, pOpen, pShut, isS, h0, hd64, he, c1, c2, pm_pure]
  | neg =>
    have h0 := tk_drop hd
    simp only [UK.each, UK.w, UK.c, UK.cl] at *
    have hd64 : ¬ d = 64 := by omega
    refine ⟨.mk 6 p 0 [] [v], ?_⟩
    simp [pUn, pUnary, pSign, pm_bind, PM.bind, pHere, pOpen, pUp, isS, h0, hd64, hin, pm_pure]
  | idx =>
    have h0 := tk_drop (X := ⟨4, p + 1, 0, [91]⟩ :: X) hd
    have h1 := tk_drop (tdrop_one (X := ⟨4, p + 1, 0, [91]⟩ :: X) hd)
    obtain ⟨c1, c2⟩ := hc rfl
    simp only [UK.each, UK.w, UK.c, UK.cl] at *
    unfold pEx at he
    have hd64 : ¬ d = 64 := by omega
    refine ⟨.mk 3 p 0 [98] [v], ?_⟩
    simp [pUn, pUnary, pPrimary, pIndex, pm_bind, PM.bind, pHere, pOpen, pShut, pKind, pIs, isS, h0, h1, hd64, he, c1, c2, pm_pure]
  | not =>
    have h0 := tk_drop (X := ⟨4, p + 1, 0, [40]⟩ :: X) hd
    have h1 := tk_drop (tdrop_one (X := ⟨4, p + 1, 0, [40]⟩ :: X) hd)
    obtain ⟨c1, c2⟩ := hc rfl
    simp only [UK.each, UK.w, UK.c, UK.cl] at *
    unfold pEx at he
    have hd64 : ¬ d = 64 := by omega
    have hd63 : ¬ d = 63 := by omega
    refine ⟨.mk 5 p 0 [] [v], ?_⟩
    simp [pUn, pUnary, pPrimary, pSign, pUp, pm_bind, PM.bind, pHere, pOpen, pShut, isS, h0, h1, hd64, hd63, he, c1, c2, pm_pure]
  | call =>
    have h0 := tk_drop (X := ⟨4, p + 1, 0, [40]⟩ :: X) hd
    have h1 := tk_drop (tdrop_one (X := ⟨4, p + 1, 0, [40]⟩ :: X) hd)
    obtain ⟨c1, c2⟩ := hc rfl
    simp only [UK.each, UK.w, UK.c, UK.cl] at *
    unfold pEx at he
    have hd64 : ¬ d = 64 := by omega
    have h3 : isS (tk L a') [44] = false := by simp [isS, c1, c2]
    have h4 : isS (tk L a') [41] = true := by simp [isS, c1, c2]
    have hm := more_one he h3
    have hl := (list_more (one := pExpr L (pUn L n)) (d := d + 1) hx).trans hm
    refine ⟨.mk 4 p 0 [102] [v], ?_⟩
    simp [pUn, pUnary, pPrimary, pCall, pm_bind, PM.bind, pHere, pOpen, pShut, pKind, pIs, isS, h0, h1, hl, hd64, c1, c2, pm_pure]

theorem unit_bad (k : UK) {p e q a' d' : Nat} (hd : L.drop a = k.toks p ++ X) (hx : isS (tk L (a + k.w)) [41] = false) (hdeep : d + k.each ≤ 64)
    (hin : pUn L n (a + k.w) (d + k.each) = .bad e q a' d') : pUn L (n + k.each) a d = .bad e q a' d' := by
  have he := ex_bad hin
  cases k with
  | par =>
    have h0 := tk_drop hd
    simp only [UK.each, UK.w] at *
    unfold pEx at he
    have hd64 : ¬ d = 64 := by omega
    simp [pUn, pUnary, pPrimary, pm_bind, PM.bind, pHere, pOpen, isS, h0, hd64, he]
  | neg =>
    have h0 := tk_drop hd
    simp only [UK.each, UK.w] at *
    have hd64 : ¬ d = 64 := by omega
    simp [pUn, pUnary, pSign, pm_bind, PM.bind, pHere, pOpen, isS, h0, hd64, hin]
  | idx =>
    have h0 := tk_drop (X := ⟨4, p + 1, 0, [91]⟩ :: X) hd
    have h1 := tk_drop (tdrop_one (X := ⟨4, p + 1, 0, [91]⟩ :: X) hd)
    simp only [UK.each, UK.w] at *
    unfold pEx at he
    have hd64 : ¬ d = 64 := by omega
    simp [pUn, pUnary, pPrimary, pIndex, pm_bind, PM.bind, pHere, pOpen, pKind, pIs, isS, h0, h1, hd64, he]
  | not =>
    have h0 := tk_drop (X := ⟨4, p + 1, 0, [40]⟩ :: X) hd
    have h1 := tk_drop (tdrop_one (X := ⟨4, p + 1, 0, [40]⟩ :: X) hd)
    simp only [UK.each, UK.w] at *
    unfold pEx at he
    have hd64 : ¬ d = 64 := by omega
    have hd63 : ¬ d = 63 := by omega
    simp [pUn, pUnary, pPrimary, pSign, pm_bind, PM.bind, pHere, pOpen, isS, h0, h1, hd64, hd63, he]
  | call =>
    have h0 := tk_drop (X := ⟨4, p + 1, 0, [40]⟩ :: X) hd
    have h1 := tk_drop (tdrop_one (X := ⟨4, p + 1, 0, [40]⟩ :: X) hd)
    simp only [UK.each, UK.w] at *
    unfold pEx at he
    have hd64 : ¬ d = 64 := by omega
    have hm := more_bad (L := L) he
    have hl := (list_more (one := pExpr L (pUn L n)) (d := d + 1) hx).trans hm
    simp [pUn, pUnary, pPrimary, pCall, pm_bind, PM.bind, pHere, pOpen, pKind, pIs, isS, h0, h1, hl, hd64]

theorem unit_deep (k : UK) {p : Nat} (hd : L.drop a = k.toks p ++ X) (hdeep : d + k.each = 65) : ∃ a' d', pUn L (n + k.each) a d = .bad 11 (p + (k.w - 1)) a' d' := by
  cases k with
  | par =>
    have h0 := tk_drop hd
    simp only [UK.each, UK.w] at *
    obtain rfl : d = 64 := by omega
    refine ⟨a, 64, ?_⟩
    simp [pUn, pUnary, pPrimary, pm_bind, PM.bind, pHere, pOpen, isS, h0]
  | neg =>
    have h0 := tk_drop hd
    simp only [UK.each, UK.w] at *
    obtain rfl : d = 64 := by omega
    refine ⟨a, 64, ?_⟩
    simp [pUn, pUnary, pSign, pm_bind, PM.bind, pHere, pOpen, isS, h0]
  | idx =>
    have h0 := tk_drop (X := ⟨4, p + 1, 0, [91]⟩ :: X) hd
    have h1 := tk_drop (tdrop_one (X := ⟨4, p + 1, 0, [91]⟩ :: X) hd)
    simp only [UK.each, UK.w] at *
    obtain rfl : d = 64 := by omega
    refine ⟨a + 1, 64, ?_⟩
    simp [pUn, pUnary, pPrimary, pIndex, pm_bind, PM.bind, pHere, pOpen, pKind, pIs, isS, h0, h1]
  | not =>
    have h0 := tk_drop (X := ⟨4, p + 1, 0, [40]⟩ :: X) hd
    have h1 := tk_drop (tdrop_one (X := ⟨4, p + 1, 0, [40]⟩ :: X) hd)
    simp only [UK.each, UK.w] at *
    obtain rfl : d = 63 := by omega
    refine ⟨a + 1, 64, ?_⟩
    simp [pUn, pUnary, pPrimary, pSign, pm_bind, PM.bind, pHere, pOpen, isS, h0, h1]
  | call =>
    have h0 := tk_drop (X := ⟨4, p + 1, 0, [40]⟩ :: X) hd
    have h1 := tk_drop (tdrop_one (X := ⟨4, p + 1, 0, [40]⟩ :: X) hd)
    simp only [UK.each, UK.w] at *
    obtain rfl : d = 64 := by omega
    refine ⟨a + 1, 64, ?_⟩
    simp [pUn, pUnary, pPrimary, pCall, pList, pm_bind, PM.bind, pHere, pOpen, pKind, pIs, isS, h0, h1]
end

theorem each_pos (k : UK) : 1 ≤ k.each ∧ 1 ≤ k.w := by cases k <;> simp [UK.each, UK.w]
/-- The first token of so many nests is no end. -/
theorem units_first (k : UK) {L X : List Token} {n p q v a : Nat} (hd : L.drop a = units k n p ++ ⟨2, q, v, []⟩ :: X) : isS (tk L a) [41] = false := by
  cases n with
  | zero =>
    have := tk_drop (X := X) hd
    simp [isS, this]
  | succ n =>
    cases k <;> (have := tk_drop (X := _) hd; simp [isS, this])

theorem nest_ok (k : UK) {L : List Token} : ∀ (n m a d p q : Nat) (Z : List Token), L.drop a = units k n p ++ ⟨2, q, 1, []⟩ :: Z → d + k.each * n ≤ 64 → m + d = 65 →
    (∀ i, i < k.c * n → ∃ t, Z[i]? = some t ∧ t.kind = 4 ∧ t.text = [k.cl]) → (∀ i, i ≤ k.c * n → ∃ t, Z[i]? = some t ∧ NoOp t) →
    ∃ v, pUn L m a d = .ok v (a + k.w * n + 1 + k.c * n) d
  | 0, m, a, d, p, q, Z, hd, h1, h2, h3, h4 => by
    obtain ⟨m, rfl⟩ : ∃ j, m = j + 1 := ⟨m - 1, by omega⟩
    exact ⟨_, un_num (X := Z) hd⟩
  | n + 1, m, a, d, p, q, Z, hd, h1, h2, h3, h4 => by
    obtain ⟨e1, e2⟩ := each_pos k
    have e3 : k.each * (n + 1) = k.each * n + k.each := Nat.mul_succ _ _
    have e4 : k.c * (n + 1) = k.c * n + k.c := Nat.mul_succ _ _
    have e5 : k.w * (n + 1) = k.w * n + k.w := Nat.mul_succ _ _
    obtain ⟨m, rfl⟩ : ∃ j, m = j + k.each := ⟨m - k.each, by omega⟩
    have hd : L.drop a = k.toks p ++ (units k n (p + k.w) ++ ⟨2, q, 1, []⟩ :: Z) := by rw [hd]; simp [units]
    have hd2 := tdrop_add hd
    rw [toks_len] at hd2
    obtain ⟨v, hv⟩ := nest_ok k n m (a + k.w) (d + k.each) (p + k.w) q Z hd2 (by omega) (by omega) (fun i hi => h3 i (by omega)) (fun i hi => h4 i (by omega))
    have hZ : ∀ i, L[a + k.w + (k.w * n + 1) + i]? = Z[i]? := by
      intro i
      have hl : (units k n (p + k.w)).length = k.w * n := by
        have key : ∀ n p, (units k n p).length = k.w * n := by
          intro n
          induction n with
          | zero => intro p; rfl
          | succ n ih => intro p; simp [units, ih, toks_len, Nat.mul_succ]; omega
        exact key n _
      have h5 : (units k n (p + k.w) ++ ⟨2, q, 1, []⟩ :: Z)[k.w * n + 1 + i]? = Z[i]? := by
        rw [List.getElem?_append_right (by omega), hl, show k.w * n + 1 + i - k.w * n = i + 1 by omega]; rfl
      rw [← h5, ← hd2, List.getElem?_drop]
      congr 1; omega
    have htk : ∀ i t, Z[i]? = some t → tk L (a + k.w + k.w * n + 1 + i) = t := by
      intro i t ht
      have := hZ i
      rw [ht] at this
      rw [show a + k.w + k.w * n + 1 + i = a + k.w + (k.w * n + 1) + i by omega]
      simp [tk, this]
    obtain ⟨t, ht1, ht2⟩ := h4 (k.c * n) (by omega)
    have hcl : Cl k (tk L (a + k.w + k.w * n + 1 + k.c * n)) := by
      intro hc
      obtain ⟨t', ht3, ht4⟩ := h3 (k.c * n) (by omega)
      rw [htk _ _ ht3]; exact ht4
    obtain ⟨v', hv'⟩ := unit_ok k (n := m) hd (units_first k hd2) (by omega) hv (by rw [htk _ _ ht1]; exact ht2) hcl
    refine ⟨v', ?_⟩
    rw [hv']
    congr 1; omega

theorem nest_bad (k : UK) {L : List Token} : ∀ (j n m a d p q : Nat) (X : List Token), L.drop a = units k n p ++ ⟨2, q, 1, []⟩ :: X → j < n → d + k.each * j + k.each = 65 → m + d = 65 →
    ∃ a' d', pUn L m a d = .bad 11 (p + k.w * j + (k.w - 1)) a' d'
  | 0, n, m, a, d, p, q, X, hd, h0, h1, h2 => by
    obtain ⟨n, rfl⟩ : ∃ j, n = j + 1 := ⟨n - 1, by omega⟩
    obtain ⟨m, rfl⟩ : ∃ j, m = j + k.each := ⟨m - k.each, by omega⟩
    have hd : L.drop a = k.toks p ++ (units k n (p + k.w) ++ ⟨2, q, 1, []⟩ :: X) := by rw [hd]; simp [units]
    exact unit_deep k (n := m) hd (by omega)
  | j + 1, n, m, a, d, p, q, X, hd, h0, h1, h2 => by
    obtain ⟨n, rfl⟩ : ∃ j, n = j + 1 := ⟨n - 1, by omega⟩
    obtain ⟨e1, e2⟩ := each_pos k
    have e3 : k.each * (j + 1) = k.each * j + k.each := Nat.mul_succ _ _
    have e5 : k.w * (j + 1) = k.w * j + k.w := Nat.mul_succ _ _
    obtain ⟨m, rfl⟩ : ∃ j, m = j + k.each := ⟨m - k.each, by omega⟩
    have hd : L.drop a = k.toks p ++ (units k n (p + k.w) ++ ⟨2, q, 1, []⟩ :: X) := by rw [hd]; simp [units]
    have hd2 := tdrop_add hd
    rw [toks_len] at hd2
    obtain ⟨a', d', h⟩ := nest_bad k j n m (a + k.w) (d + k.each) (p + k.w) q X hd2 (by omega) (by omega) (by omega)
    refine ⟨a', d', ?_⟩
    rw [unit_bad k (n := m) hd (units_first k hd2) (by omega) h]
    congr 1; omega

theorem shutT_get (c : UInt8) : ∀ (n p i : Nat) (Z : List Token), i < n → (shutT c n p ++ Z)[i]? = some ⟨4, p + i, 0, [c]⟩
  | 0, _, _, _, h => by omega
  | n + 1, p, 0, Z, _ => rfl
  | n + 1, p, i + 1, Z, h => by
    have := shutT_get c n (p + 1) i Z (by omega)
    rw [show p + (i + 1) = p + 1 + i by omega]
    simpa [shutT] using this
theorem shutT_len (c : UInt8) : ∀ (n p : Nat), (shutT c n p).length = n
  | 0, _ => rfl
  | n + 1, p => by simp [shutT, shutT_len c n]
theorem noop_cl (k : UK) (p : Nat) : NoOp ⟨4, p, 0, [k.cl]⟩ := by
  intro j
  have h1 : levelOf [41] = none := by decide
  have h2 : levelOf [93] = none := by decide
  cases k <;> simp [signOf, UK.cl, h1, h2]
theorem noop_semi (p : Nat) : NoOp ⟨4, p, 0, [59]⟩ := by
  intro j
  have h1 : levelOf [59] = none := by decide
  simp [signOf, h1]

/-- THE PLAIN LAW. -/
theorem syntax_deep (k : UK) (n : Nat) (hn : n ≤ 200) : (1 + k.each * n ≤ 64 → (parseS (deepS k n)).2 = (0, 0)) ∧ (¬ 1 + k.each * n ≤ 64 → parseS (deepS k n) = ([], 11, 13 + k.w * ((64 - k.each) / k.each) + (k.w - 1))) := by
  have hlex := deep_lex k n hn
  have hc : k.c = 0 ∨ k.c = 1 := by cases k <;> simp [UK.c]
  obtain ⟨L, hL⟩ : ∃ L, L = deepT k n := ⟨_, rfl⟩
  rw [← hL] at hlex
  have hd0 : L.drop 0 = deepT k n := by rw [hL]; rfl
  unfold deepT at hd0
  have hd1 := tdrop_one hd0
  have hd2 := tdrop_one hd1
  have hd3 := tdrop_one hd2
  have hd4 := tdrop_one hd3
  have hd5 := tdrop_one hd4
  have hd6 := tdrop_one hd5
  have hd7 := tdrop_one hd6
  have t0 := tk_drop hd0
  have t1 := tk_drop hd1
  have t2 := tk_drop hd2
  have t3 := tk_drop hd3
  have t4 := tk_drop hd4
  have t5 := tk_drop hd5
  have t6 := tk_drop hd6
  simp only [Nat.zero_add, Nat.reduceAdd] at t1 t2 t3 t4 t5 t6 hd7
  have hpar : parseS (deepS k n) = match pFuncs L 131073 [] 0 0 with
    | .ok l _ _ => (l, 0, 0)
    | .bad e p _ _ => ([], e, p) := by
    unfold parseS
    rw [hlex]
    rfl
  constructor
  · intro h
    obtain ⟨v, hv⟩ := nest_ok k n 64 7 1 13 _ _ hd7 (by omega) (by omega) (fun i hi => ⟨_, shutT_get _ _ _ _ _ hi, rfl, rfl⟩) (fun i hi => by
      by_cases hlt : i < k.c * n
      · exact ⟨_, shutT_get _ _ _ _ _ hlt, noop_cl k _⟩
      · obtain rfl : i = k.m n := by unfold UK.m; omega
        refine ⟨⟨4, 13 + k.w * n + 1 + k.m n, 0, [59]⟩, ?_, noop_semi _⟩
        rw [List.getElem?_append_right (by rw [shutT_len]; exact Nat.le_refl _), shutT_len, Nat.sub_self]; rfl)
    have hul : (units k n 13).length = k.w * n := by
      have key : ∀ n p, (units k n p).length = k.w * n := by
        intro n
        induction n with
        | zero => intro p; rfl
        | succ n ih => intro p; simp [units, ih, toks_len, Nat.mul_succ]; omega
      exact key n _
    have hd8 := tdrop_one (tdrop_add hd7)
    rw [hul] at hd8
    have hd9 := tdrop_add hd8
    rw [shutT_len] at hd9
    have hd10 := tdrop_one hd9
    have hd11 := tdrop_one hd10
    have t9 := tk_drop hd9
    have t10 := tk_drop hd10
    have t11 := tk_drop hd11
    have hex := ex_of hv (by
      show NoOp (tk L (7 + k.w * n + 1 + k.m n))
      rw [t9]; exact noop_semi _)
    change pEx L 64 7 1 = .ok v (7 + k.w * n + 1 + k.m n) 1 at hex
    generalize 7 + k.w * n + 1 + k.m n = z at *
    rw [hpar]
    have hs : pStmt L (pBlock L 64) 64 5 1 = .ok (.mk 3 9 0 [120] ⟨0, 0, 0⟩ [v] [] [] false) (z + 1) 1 := by
      simp [pStmt, pNamed, pEnd, pm_bind, PM.bind, pHere, pTake, pKind, pIs, pMaybe, isS, t5, t6, t9, hex, pm_pure]
    have n5 : isS (tk L 5) [125] = false := by rw [t5]; rfl
    have y10 : isS (tk L (z + 1)) [125] = true := by rw [t10]; rfl
    have o4 : pOpen L [123] 4 0 = .ok () 5 1 := by simp [pOpen, t4, isS]
    have hst : pStmts L (pStmt L (pBlock L 64) 64) (131071 + 1 + 1) [] 5 1 = .ok [.mk 3 9 0 [120] ⟨0, 0, 0⟩ [v] [] [] false] (z + 1) 1 := by
      rw [stmts_eq, n5, hs, if_neg (by decide)]
      show pStmts L _ (131071 + 1) _ _ _ = _
      rw [stmts_eq, y10, if_pos rfl]; rfl
    have hst : pStmts L (pStmt L (pBlock L 64) 64) 131073 [] 5 1 = .ok [.mk 3 9 0 [120] ⟨0, 0, 0⟩ [v] [] [] false] (z + 1) 1 := hst
    have hb : pBlock L (64 + 1) 4 0 = .ok [.mk 3 9 0 [120] ⟨0, 0, 0⟩ [v] [] [] false] (z + 1 + 1) 0 := by
      rw [block_eq, o4]
      simp only [hst]
      simp [pShut, y10]
    have hf : pFunc L 0 0 = .ok ⟨3, [102], [], false, ⟨0, 0, 0⟩, [.mk 3 9 0 [120] ⟨0, 0, 0⟩ [v] [] [] false]⟩ (z + 1 + 1) 0 := by
      have hb : pBlock L 65 4 0 = _ := hb
      unfold pFunc
      simp [pm_bind, PM.bind, pTake, pKind, pIs, pMaybe, pList, isS, t0, t1, t2, t3, t4, hb, pm_pure]
    have hfs : pFuncs L (131071 + 1 + 1) [] 0 0 = .ok [⟨3, [102], [], false, ⟨0, 0, 0⟩, [.mk 3 9 0 [120] ⟨0, 0, 0⟩ [v] [] [] false]⟩] (z + 1 + 1) 0 := by
      rw [funcs_eq, hf, if_neg (by rw [t0]; decide)]
      show pFuncs L (131071 + 1) _ _ _ = _
      rw [funcs_eq, if_pos (by rw [t11])]; rfl
    have hfs : pFuncs L 131073 [] 0 0 = _ := hfs
    rw [hfs]
  · intro h
    have hj : ∃ j, j < n ∧ 1 + k.each * j + k.each = 65 ∧ (64 - k.each) / k.each = j := by
      cases k <;> simp only [UK.each] at h ⊢ <;> first | exact ⟨63, by omega, by omega, by omega⟩ | exact ⟨31, by omega, by omega, by omega⟩
    obtain ⟨j, h1, h2, h3⟩ := hj
    obtain ⟨a', d', hv⟩ := nest_bad k j n 64 7 1 13 _ _ hd7 h1 h2 (by omega)
    have hex := ex_bad hv
    rw [hpar, h3]
    generalize 13 + k.w * j + (k.w - 1) = z at *
    have hs : pStmt L (pBlock L 64) 64 5 1 = .bad 11 z a' d' := by
      simp [pStmt, pNamed, pEnd, pm_bind, PM.bind, pHere, pTake, pKind, pIs, pMaybe, isS, t5, t6, hex, pm_pure]
    have n5 : isS (tk L 5) [125] = false := by rw [t5]; rfl
    have o4 : pOpen L [123] 4 0 = .ok () 5 1 := by simp [pOpen, t4, isS]
    have hst : pStmts L (pStmt L (pBlock L 64) 64) (131072 + 1) [] 5 1 = .bad 11 z a' d' := by
      rw [stmts_eq, n5, hs, if_neg (by decide)]
    have hst : pStmts L (pStmt L (pBlock L 64) 64) 131073 [] 5 1 = .bad 11 z a' d' := hst
    have hb : pBlock L (64 + 1) 4 0 = .bad 11 z a' d' := by
      rw [block_eq, o4]
      simp only [hst]
    have hf : pFunc L 0 0 = .bad 11 z a' d' := by
      have hb : pBlock L 65 4 0 = _ := hb
      unfold pFunc
      simp [pm_bind, PM.bind, pTake, pKind, pIs, pMaybe, pList, isS, t0, t1, t2, t3, t4, hb, pm_pure]
    have hfs : pFuncs L (131072 + 1) [] 0 0 = .bad 11 z a' d' := by
      rw [funcs_eq, hf, if_neg (by rw [t0]; decide)]
    have hfs : pFuncs L 131073 [] 0 0 = _ := hfs
    rw [hfs]
end Go.Proofs.YtkeoalhglkfbkaaDoor

/-
  The law SyntaxDeep, by the evaluator. No conditions.
-/
namespace Go.Proofs.YtkeoalhglkfbkaaDoor
open Go Hk

def kindOf (kind : Int) : UK := if kind = 0 then .par else if kind = 1 then .neg else if kind = 2 then .idx else if kind = 3 then .not else .call

theorem opens_succ (k : UK) (n : Nat) : opens k (n + 1) = opens k n ++ k.txt := by simp [opens, List.replicate_succ']
theorem opens_le (k : UK) (n : Nat) (hn : n ≤ 200) : (opens k n).length ≤ 400 := by
  rw [opens_len]
  cases k <;> simp [UK.w] <;> omega
theorem m_le (k : UK) (n : Nat) (hn : n ≤ 200) : k.m n ≤ 200 := by cases k <;> simp [UK.m, UK.c] <;> omega

theorem m11_loop (kind : Int) (n : Nat) (hn : n ≤ 200) : ∀ (j i : Nat), n < i + j → i ≤ n →
    lpW (m11_l0 KK 0) ([.int .i64 kind, .int .i64 (n : Int), .bool false, .str (opens (kindOf kind) i), .str (List.replicate ((kindOf kind).m i) (kindOf kind).cl), .int .i64 (i : Int)], []) =
      some (.exit 0, [.int .i64 kind, .int .i64 (n : Int), .bool false, .str (opens (kindOf kind) n), .str (List.replicate ((kindOf kind).m n) (kindOf kind).cl), .int .i64 (n : Int)], []) := by
  intro j
  induction j with
  | zero => intro i a1 a2; omega
  | succ j ih =>
    intro i a1 a2
    rw [lpW_step]
    by_cases hi : i < n
    · have w1 := wrapS (a := i) (by omega)
      have hn' := ih (i + 1) (by omega) hi
      simp only [Int.natCast_add, Int.cast_ofNat_Int] at hn'
      have l1 := opens_le (kindOf kind) i (by omega)
      have l2 := m_le (kindOf kind) i (by omega)
      have hi' : (i : Int) < n := by omega
      unfold kindOf at hn' l1 l2 ⊢
      by_cases k0 : kind = 0
      · subst k0
        simp only [if_true, opens_succ] at hn' l1 l2 ⊢
        have b1 : (opens .par i).length ≤ 4611686018427387903 := by omega
        have b2 : UK.par.m i ≤ 4611686018427387903 := by omega
        have b3 : 1 + UK.par.m i ≤ 4611686018427387904 := by omega
        have e : UK.par.m (i + 1) = UK.par.m i + 1 := by simp [UK.m, UK.c]
        rw [e, List.replicate_succ] at hn'
        simp only [UK.txt, UK.cl] at hn' ⊢
        simp -implicitDefEqProofs [m11_l0, hi', b1, b2, b3, w1, endR_zero, hn']
      · by_cases k1 : kind = 1
        · subst k1
          simp [opens_succ] at hn' l1 l2 ⊢
          have b1 : (opens .neg i).length ≤ 4611686018427387903 := by omega
          have e : UK.neg.m (i + 1) = UK.neg.m i := by simp [UK.m, UK.c]
          rw [e] at hn'
          simp only [UK.txt, UK.cl] at hn' ⊢
          simp -implicitDefEqProofs [m11_l0, hi', b1, w1, endR_zero, hn']
        · by_cases k2 : kind = 2
          · subst k2
            simp [opens_succ] at hn' l1 l2 ⊢
            have b1 : (opens .idx i).length ≤ 4611686018427387902 := by omega
            have b2 : UK.idx.m i ≤ 4611686018427387903 := by omega
            have b3 : 1 + UK.idx.m i ≤ 4611686018427387904 := by omega
            have e : UK.idx.m (i + 1) = UK.idx.m i + 1 := by simp [UK.m, UK.c]
            rw [e, List.replicate_succ] at hn'
            simp only [UK.txt, UK.cl] at hn' ⊢
            simp -implicitDefEqProofs [m11_l0, hi', b1, b2, b3, w1, endR_zero, hn']
          · by_cases k3 : kind = 3
            · subst k3
              simp [opens_succ] at hn' l1 l2 ⊢
              have b1 : (opens .not i).length ≤ 4611686018427387902 := by omega
              have b2 : UK.not.m i ≤ 4611686018427387903 := by omega
              have b3 : 1 + UK.not.m i ≤ 4611686018427387904 := by omega
              have e : UK.not.m (i + 1) = UK.not.m i + 1 := by simp [UK.m, UK.c]
              rw [e, List.replicate_succ] at hn'
              simp only [UK.txt, UK.cl] at hn' ⊢
              simp -implicitDefEqProofs [m11_l0, hi', b1, b2, b3, w1, endR_zero, hn']
            · simp only [k0, k1, k2, k3, if_false, opens_succ] at hn' l1 l2 ⊢
              have b1 : (opens .call i).length ≤ 4611686018427387902 := by omega
              have b2 : UK.call.m i ≤ 4611686018427387903 := by omega
              have b3 : 1 + UK.call.m i ≤ 4611686018427387904 := by omega
              have e : UK.call.m (i + 1) = UK.call.m i + 1 := by simp [UK.m, UK.c]
              rw [e, List.replicate_succ] at hn'
              simp only [UK.txt, UK.cl] at hn' ⊢
              simp -implicitDefEqProofs [m11_l0, hi', k0, k1, k2, k3, b1, b2, b3, w1, endR_zero, hn']
    · obtain rfl : i = n := by omega
      simp -implicitDefEqProofs [m11_l0, endR_zero]

theorem adds_le {s t : List UInt8} (h : s.length + t.length ≤ 4611686018427387904) : abin .add (.str s) (.str t) = some (.str (s ++ t)) := by rw [abin_adds, if_pos h]

set_option maxHeartbeats 4000000 in
theorem c11 (kind n : Int) : evW Tryd.prog ann 11 [.int .i64 kind, .int .i64 n] [] = some (.ret (.bool true), []) := by
  refine evW_by (m11_eq _ _ _ _) ?_
  have h36 := c36
  by_cases h0 : n < 0
  · simp -implicitDefEqProofs [m11, h0, h36, finR_zero]
  · by_cases h200 : 200 < n
    · simp -implicitDefEqProofs [m11, h0, h200, h36, finR_zero]
    · obtain ⟨n, rfl⟩ := Int.eq_ofNat_of_zero_le (by omega : 0 ≤ n)
      have hn : n ≤ 200 := by omega
      have hlp := m11_loop kind n hn (n + 1) 0 (by omega) (Nat.zero_le _)
      have hm0 : (kindOf kind).m 0 = 0 := by simp [UK.m]
      simp only [Int.cast_ofNat_Int, hm0, List.replicate_zero, show opens (kindOf kind) 0 = [] from rfl] at hlp
      have l1 := opens_le (kindOf kind) n hn
      have l2 := m_le (kindOf kind) n hn
      obtain ⟨d1, d2⟩ := syntax_deep (kindOf kind) n hn
      have h33 := c33 (deepS (kindOf kind) n)
      generalize hp : parseS (deepS (kindOf kind) n) = pr at d1 d2 h33
      obtain ⟨F, e, p⟩ := pr
      simp only [deepS] at h33
      obtain ⟨A, hA⟩ : ∃ A, A = opens (kindOf kind) n := ⟨_, rfl⟩
      obtain ⟨Z, hZ⟩ : ∃ Z, Z = List.replicate ((kindOf kind).m n) (kindOf kind).cl := ⟨_, rfl⟩
      have hAl : A.length ≤ 400 := by rw [hA]; exact l1
      have hZl : Z.length ≤ 200 := by rw [hZ]; simp; exact l2
      simp only [← hA, ← hZ] at hlp h33
      clear hA hZ l1 l2
      have wm : ∀ z : Int, 0 ≤ z → z ≤ 1000 → IntKind.i64.wrap z = z := fun z z1 z2 => by rw [wrap64] <;> omega
      have each1 : ¬ kind = 3 → (kindOf kind).each = 1 := fun k3 => by unfold kindOf; (repeat' split) <;> first | rfl | contradiction
      have off0 : (kind = 0 ∨ kind = 1 ∨ kind = 3) → (13 : Nat) + (kindOf kind).w * ((64 - (kindOf kind).each) / (kindOf kind).each) + ((kindOf kind).w - 1) = 76 := by
        rintro (rfl | rfl | rfl) <;> rfl
      have off1 : ¬ kind = 0 → ¬ kind = 1 → ¬ kind = 3 → (13 : Nat) + (kindOf kind).w * ((64 - (kindOf kind).each) / (kindOf kind).each) + ((kindOf kind).w - 1) = 140 := by
        intro k0 k1 k3; unfold kindOf; (repeat' split) <;> first | rfl | contradiction
      have hn0 : ¬ (n : Int) < 0 := by omega
      have hn2 : ¬ (200 : Int) < n := by omega
      have b1 : A.length + 13 ≤ 4611686018427387904 := by omega
      by_cases k3 : kind = 3
      · subst k3
        have e2 : (kindOf 3).each = 2 := rfl
        rw [e2] at d1 d2
        have w1 := wm (2 * n) (by omega) (by omega)
        have w2 := wm (1 + 2 * n) (by omega) (by omega)
        by_cases hd : 1 + 2 * n ≤ 64
        · obtain ⟨rfl, rfl⟩ := Prod.mk.inj (d1 hd)
          have hd' : (1 : Int) + 2 * n ≤ 64 := by omega
          clear d1 d2 off0 off1 e2 each1 hp
          simp -implicitDefEqProofs (disch := (simp only [List.length_cons, List.length_append, List.length_nil]; omega)) [-abin_adds, adds_le, m11, hn0, hn2, hlp, w1, w2, hd', h33, h36, aeqAgg, aeqAll, aeqK, finR_zero]
        · have hd' : ¬ (1 : Int) + 2 * n ≤ 64 := by omega
          have e3 := d2 hd
          rw [← e2, off0 (.inr (.inr rfl))] at e3
          obtain ⟨rfl, e4⟩ := Prod.mk.inj e3
          obtain ⟨rfl, rfl⟩ := Prod.mk.inj e4
          clear d1 d2 off0 off1 e2 each1 hp
          simp -implicitDefEqProofs (disch := (simp only [List.length_cons, List.length_append, List.length_nil]; omega)) [-abin_adds, adds_le, m11, hn0, hn2, hlp, w1, w2, hd', h33, h36, aeqAgg, aeqAll, aeqK, finR_zero]
      · have e2 := each1 k3
        rw [e2] at d1 d2
        rw [Nat.one_mul] at d1 d2
        have w1 := wm n (by omega) (by omega)
        have w2 := wm (1 + n) (by omega) (by omega)
        by_cases hd : 1 + n ≤ 64
        · obtain ⟨rfl, rfl⟩ := Prod.mk.inj (d1 hd)
          have hd' : (1 : Int) + n ≤ 64 := by omega
          clear d1 d2 off0 off1 e2 each1 hp
          simp -implicitDefEqProofs (disch := (simp only [List.length_cons, List.length_append, List.length_nil]; omega)) [-abin_adds, adds_le, m11, k3, hn0, hn2, hlp, w1, w2, hd', h33, h36, aeqAgg, aeqAll, aeqK, finR_zero]
        · have hd' : ¬ (1 : Int) + n ≤ 64 := by omega
          have e3 := d2 hd
          rw [e2] at off0 off1
          by_cases k01 : kind = 0 ∨ kind = 1
          · rw [off0 (k01.elim .inl fun h => .inr (.inl h))] at e3
            obtain ⟨rfl, e4⟩ := Prod.mk.inj e3
            obtain ⟨rfl, rfl⟩ := Prod.mk.inj e4
            clear d1 d2 off0 off1 e2 each1 hp
            rcases k01 with rfl | rfl
            · simp -implicitDefEqProofs (disch := (simp only [List.length_cons, List.length_append, List.length_nil]; omega)) [-abin_adds, adds_le, m11, hn0, hn2, hlp, w1, w2, hd', h33, h36, aeqAgg, aeqAll, aeqK, finR_zero]
            · simp -implicitDefEqProofs (disch := (simp only [List.length_cons, List.length_append, List.length_nil]; omega)) [-abin_adds, adds_le, m11, hn0, hn2, hlp, w1, w2, hd', h33, h36, aeqAgg, aeqAll, aeqK, finR_zero]
          · have k0 : ¬ kind = 0 := fun h => k01 (.inl h)
            have k1 : ¬ kind = 1 := fun h => k01 (.inr h)
            rw [off1 k0 k1 k3] at e3
            obtain ⟨rfl, e4⟩ := Prod.mk.inj e3
            obtain ⟨rfl, rfl⟩ := Prod.mk.inj e4
            clear d1 d2 off0 off1 e2 each1 hp
            simp -implicitDefEqProofs (disch := (simp only [List.length_cons, List.length_append, List.length_nil]; omega)) [-abin_adds, adds_le, m11, k0, k1, k3, hn0, hn2, hlp, w1, w2, hd', h33, h36, aeqAgg, aeqAll, aeqK, finR_zero]
end Go.Proofs.YtkeoalhglkfbkaaDoor

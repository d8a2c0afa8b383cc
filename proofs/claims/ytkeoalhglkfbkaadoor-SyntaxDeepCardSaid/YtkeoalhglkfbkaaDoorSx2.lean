/-
  The texts SX.A, SX.P, SX.G, SX.H, SX.I, SX.J, SX.K, SX.N, SX.O, SX.Q, SX.R, SX.S, SX.T, SX.U, SX.V, SX.W, SX.X, SX.X1, SX.X2, SX.X3, SX.X5, SX.X4, SX.X6, SX.Z1, one behind another. No conditions.
-/
import Derived.Test.YtkeoalhglkfbkaaDoorSx1
import Derived.Test.YtkeoalhglkfbkaaDoorLx3
set_option linter.unusedVariables false
set_option linter.unusedSimpArgs false
/-
  The parser's block, its tokens and its panics: definitions and tools. No conditions.
-/
namespace Go.Proofs.YtkeoalhglkfbkaaDoor
open Go Hk

def PB (L : List Token) (at_ deep : Nat) : ABlk := .cells [.slice (L.map Token.cells) .no, .int .i64 (at_ : Int), .int .i64 (deep : Int)]

theorem tok_ok (t : Token) : ∀ x ∈ t.cells, x.cellOk = true := by intro x hx; simp [Token.cells] at hx; rcases hx with rfl | rfl | rfl | rfl <;> rfl
theorem tok_ok2 (t : Token) : (∀ x, x ∈ t.cells → x.cellOk = true) = True := eq_true (tok_ok t)
theorem keep_tok (t : Token) (m : Nat) (h : Heap) : t.cells.map (AVal.untok1 ∘ fun x => AVal.san1 m h x) = t.cells := (rfl)
theorem san_tok (t : Token) (m : Nat) (h : Heap) : AVal.san m h (.agg t.cells) = .agg t.cells := rfl
theorem untok_tok (t : Token) : AVal.untok (.agg t.cells) = .agg t.cells := rfl
@[simp] theorem tok_nonil (t : Token) (h : Heap) (os : List AVal) : keepTok h os t.cells = t.cells := keepTok_none (by intro c hc; simp [Token.cells] at hc; rcases hc with rfl | rfl | rfl | rfl <;> rfl)

/-- Is a word or sign next? -/
def isS (t : Token) (w : List UInt8) : Bool := (decide (t.kind = 3) || decide (t.kind = 4)) && decide (t.text = w)

def wrongV (e pos : Nat) : AVal := .iface 137 (.agg [.int .i64 (e : Int), .int .i64 (pos : Int)])
theorem wrong_keep {m : Nat} {h : Heap} {e p : Int} : (AVal.san m h (.iface 137 (.agg [.int .i64 e, .int .i64 p]))).untok = .iface 137 (.agg [.int .i64 e, .int .i64 p]) := (rfl)
def secS : List UInt8 := [115, 101, 99]
def pubS : List UInt8 := [112, 117, 98]
def maskS : List UInt8 := [109, 97, 115, 107]
def u32S : List UInt8 := [117, 51, 50]
theorem int3_keep {m : Nat} {h : Heap} {x y z : Int} : (AVal.san m h (.agg [.int .i64 x, .int .i64 y, .int .i64 z])).untok = .agg [.int .i64 x, .int .i64 y, .int .i64 z] := (rfl)
end Go.Proofs.YtkeoalhglkfbkaaDoor

/-
  The parser as a plain function: what it answers, at which token it stands, and how deep it is. No conditions.
-/
namespace Go.Proofs.YtkeoalhglkfbkaaDoor
open Go Hk

structure Ty where
  elem : Nat
  len : Nat
  label : Nat
  deriving DecidableEq
structure XP where
  pos : Nat
  name : List UInt8
  ty : Ty
  out : Bool
inductive XE where
  | mk (kind pos num : Nat) (name : List UInt8) (args : List XE)
inductive XS where
  | mk (kind pos most : Nat) (name : List UInt8) (ty : Ty) (args : List XE) (body els : List XS) (has : Bool)
structure XF where
  pos : Nat
  name : List UInt8
  params : List XP
  has : Bool
  result : Ty
  body : List XS

/-- How a piece of parsing ends: an answer, or an error at a place; at which token, and how deep. -/
inductive Out (α : Type) where
  | ok (v : α) (at_ deep : Nat)
  | bad (e pos at_ deep : Nat)

def PM (α : Type) : Type := Nat → Nat → Out α
def PM.bind {α β : Type} (x : PM α) (f : α → PM β) : PM β := fun a d => match x a d with
  | .ok v a' d' => f v a' d'
  | .bad e p a' d' => .bad e p a' d'
instance : Monad PM where
  pure v := fun a d => .ok v a d
  bind := PM.bind

theorem pm_bind {α β : Type} {x : PM α} {f : α → PM β} : x >>= f = PM.bind x f := rfl
theorem pm_pure {α : Type} {v : α} {a d : Nat} : (pure v : PM α) a d = .ok v a d := rfl

def tk (L : List Token) (a : Nat) : Token := (L[a]?).getD ⟨0, 0, 0, []⟩

section
variable (L : List Token)

def pFail {α : Type} (e : Nat) : PM α := fun a d => .bad e (tk L a).pos a d
def pHere : PM Token := fun a d => .ok (tk L a) a d
def pNext : PM Unit := fun a d => .ok () (a + 1) d
def pUp : PM Unit := fun a d => .ok () a (d - 1)
def pIs (w : List UInt8) : PM Bool := fun a d => .ok (isS (tk L a) w) a d
def pMaybe (w : List UInt8) : PM Bool := fun a d => .ok (isS (tk L a) w) (if isS (tk L a) w then a + 1 else a) d
def pTake (w : List UInt8) : PM Unit := fun a d => if isS (tk L a) w then .ok () (a + 1) d else .bad 10 (tk L a).pos a d
def pKind (k : Nat) : PM Token := fun a d => if (tk L a).kind = k then .ok (tk L a) (a + 1) d else .bad 10 (tk L a).pos a d
def pOpen (w : List UInt8) : PM Unit := fun a d =>
  if isS (tk L a) w then (if d = 64 then .bad 11 (tk L a).pos a d else .ok () (a + 1) (d + 1)) else .bad 10 (tk L a).pos a d
def pShut (w : List UInt8) : PM Unit := fun a d => if isS (tk L a) w then .ok () (a + 1) (d - 1) else .bad 10 (tk L a).pos a d

def pLabel : PM Nat := fun a d =>
  if isS (tk L a) secS then .ok 1 (a + 1) d else if isS (tk L a) pubS then .ok 0 (a + 1) d else .bad 10 (tk L a).pos a d
def pScalar (l : Nat) : PM Ty := fun a d =>
  if isS (tk L a) maskS then .ok ⟨1, 0, l⟩ (a + 1) d else if isS (tk L a) u32S then .ok ⟨0, 0, l⟩ (a + 1) d else .bad 10 (tk L a).pos a d
def pMany : PM Nat := do
  pTake L [91]
  let t ← pHere L
  if t.kind = 2 ∧ t.num = 0 then pFail L 10
  else
    let n ← pKind L 2
    pTake L [93]
    return n.num
def pKinds (l : Nat) : PM Ty := do
  if ← pMaybe L [117, 56] then
    let n ← pMany L
    return ⟨2, n, l⟩
  else
    let t ← pScalar L l
    if t.elem = 0 then
      if ← pIs L [91] then
        let n ← pMany L
        return { t with len := n }
      else return t
    else return t
def pParam : PM XP := do
  let out ← pMaybe L [111, 117, 116]
  let l ← pLabel L
  let name ← pKind L 1
  pTake L [58]
  let ty ← pKinds L l
  return ⟨name.pos, name.text, ty, out⟩

/-- A list's rest: so many at most. -/
def pMore {α : Type} (one : PM α) : Nat → List α → PM (List α)
  | 0, _ => pFail L 99
  | n + 1, l => do
    let x ← one
    if ← pMaybe L [44] then pMore one n (l ++ [x]) else return l ++ [x]
def pList {α : Type} (end_ : List UInt8) (one : PM α) : PM (List α) := do
  if ← pIs L end_ then return [] else pMore L one 131073 []

/-! ### Expressions -/

/-- The level and the kind of a sign between two. -/
def levelOf (w : List UInt8) : Option (Nat × Nat) :=
  if w = [61, 61] then some (0, 17) else if w = [33, 61] then some (0, 18) else if w = [60] then some (0, 19) else if w = [60, 61] then some (0, 20)
  else if w = [62] then some (0, 21) else if w = [62, 61] then some (0, 22) else if w = [124] then some (1, 12) else if w = [94] then some (2, 13)
  else if w = [38] then some (3, 11) else if w = [60, 60] then some (4, 14) else if w = [62, 62] then some (4, 15) else if w = [43] then some (5, 8)
  else if w = [45] then some (5, 9) else if w = [42] then some (6, 10) else none
def signOf (t : Token) (k : Nat) : Option Nat :=
  if t.kind = 4 then match levelOf t.text with
    | some (n, kind) => if n = k then some kind else none
    | none => none
  else none

section
variable (expr unary : PM XE)

def pIndex : PM (List XE) := do
  pOpen L [91]
  let x ← expr
  pShut L [93]
  return [x]
def pCall (name : Token) : PM XE := do
  pOpen L [40]
  let l ← pList L [41] expr
  pShut L [41]
  return .mk 4 name.pos 0 name.text l
def pArgs : Nat → Bool → List XE → PM (List XE)
  | 0, _, l => pure l
  | n + 1, first, l => do
    if !first then pTake L [44]
    let x ← expr
    pArgs n false (l ++ [x])
def pMade (kind many : Nat) (number : Bool) : PM XE := do
  let t ← pHere L
  pNext
  pOpen L [40]
  let l ← pArgs L expr many true []
  if number then
    pTake L [44]
    let n ← pKind L 2
    pShut L [41]
    return .mk kind t.pos n.num [] l
  else
    pShut L [41]
    return .mk kind t.pos 0 [] l
def pPrimary : PM XE := do
  let t ← pHere L
  if t.kind = 2 then
    pNext
    return .mk 1 t.pos t.num [] []
  else if isS t [40] then
    pOpen L [40]
    let x ← expr
    pShut L [41]
    return x
  else if isS t [109, 117, 108, 104, 105] then pMade L expr 23 2 false
  else if isS t [99, 97, 114, 114, 121] then pMade L expr 24 2 false
  else if isS t [115, 101, 108, 101, 99, 116] then pMade L expr 25 3 false
  else if isS t [119, 111, 114, 100] then pMade L expr 26 1 false
  else if isS t [114, 111, 114] then pMade L expr 16 1 true
  else
    let _ ← pKind L 1
    if ← pIs L [40] then pCall L expr t
    else if ← pIs L [91] then
      let l ← pIndex L expr
      return .mk 3 t.pos 0 t.text l
    else return .mk 2 t.pos 0 t.text []
def pSign (kind : Nat) : PM XE := do
  let t ← pHere L
  pOpen L t.text
  let x ← unary
  pUp
  return .mk kind t.pos 0 [] [x]
def pUnary : PM XE := do
  let t ← pHere L
  if isS t [126] then pSign L unary 5
  else if isS t [45] then pSign L unary 6
  else if isS t [33] then pSign L unary 7
  else pPrimary L expr
end

/-- What is joined by signs of a level: the rest, so many at most. -/
def pJoin (next : PM XE) (k : Nat) : Nat → XE → PM XE
  | 0, _ => pFail L 99
  | n + 1, x => do
    let t ← pHere L
    match signOf t k with
    | none => return x
    | some kind =>
      pNext
      if kind = 14 ∨ kind = 15 then
        let c ← pKind L 2
        pJoin next k n (.mk kind t.pos c.num [] [x])
      else
        let y ← next
        pJoin next k n (.mk kind t.pos 0 [] [x, y])
/-- The chain of level 7 - j. -/
def pChain (un : PM XE) : Nat → PM XE
  | 0 => un
  | j + 1 => do
    let x ← pChain un j
    pJoin L (pChain un j) (6 - j) 131073 x
def pExpr (un : PM XE) : PM XE := do
  let x ← pChain L un 6
  let t ← pHere L
  match signOf t 0 with
  | none => return x
  | some kind =>
    pNext
    let y ← pChain L un 6
    return .mk kind t.pos 0 [] [x, y]

/-- What has so many nests left, and one. -/
def pUn : Nat → PM XE
  | 0 => pFail L 99
  | n + 1 => pUnary L (pExpr L (pUn n)) (pUn n)
def pEx (n : Nat) : PM XE := pExpr L (pUn L n)

/-! ### Statements -/

def pEnd (n : Nat) : PM (List XE) := do
  let x ← pEx L n
  pTake L [59]
  return [x]
def pNamed (n pos : Nat) : PM XS := do
  let name ← pKind L 1
  if ← pIs L [40] then
    let c ← pCall L (pEx L (n - 1)) name
    pTake L [59]
    return .mk 7 pos 0 [] ⟨0, 0, 0⟩ [c] [] [] false
  else if ← pIs L [91] then
    let i ← pIndex L (pEx L (n - 1))
    pTake L [61]
    let l ← pEnd L n
    return .mk 4 pos 0 name.text ⟨0, 0, 0⟩ (i ++ l) [] [] false
  else
    pTake L [61]
    let l ← pEnd L n
    return .mk 3 pos 0 name.text ⟨0, 0, 0⟩ l [] [] false
def pStmt (block : PM (List XS)) (n : Nat) : PM XS := do
  let t ← pHere L
  if ← pMaybe L [108, 101, 116] then
    let name ← pKind L 1
    pTake L [61]
    let l ← pEnd L n
    return .mk 1 t.pos 0 name.text ⟨0, 0, 0⟩ l [] [] false
  else if ← pMaybe L [118, 97, 114] then
    let lab ← pLabel L
    let name ← pKind L 1
    pTake L [58]
    let ty ← pKinds L lab
    pTake L [59]
    return .mk 2 t.pos 0 name.text ty [] [] [] false
  else if ← pMaybe L [105, 102] then
    let x ← pEx L n
    let b ← block
    if ← pMaybe L [101, 108, 115, 101] then
      let e ← block
      return .mk 5 t.pos 0 [] ⟨0, 0, 0⟩ [x] b e true
    else return .mk 5 t.pos 0 [] ⟨0, 0, 0⟩ [x] b [] false
  else if ← pMaybe L [102, 111, 114] then
    let name ← pKind L 1
    pTake L [60]
    let x ← pEx L n
    pTake L [109, 97, 120]
    let m ← pKind L 2
    let b ← block
    return .mk 6 t.pos m.num name.text ⟨0, 0, 0⟩ [x] b [] false
  else if ← pMaybe L [114, 101, 116, 117, 114, 110] then
    let l ← pEnd L n
    return .mk 8 t.pos 0 [] ⟨0, 0, 0⟩ l [] [] false
  else pNamed L n t.pos
def pStmts (stmt : PM XS) : Nat → List XS → PM (List XS)
  | 0, _ => pFail L 99
  | m + 1, l => do
    if ← pIs L [125] then return l
    else
      let s ← stmt
      pStmts stmt m (l ++ [s])
def pBlock : Nat → PM (List XS)
  | 0 => pFail L 99
  | n + 1 => do
    pOpen L [123]
    let l ← pStmts L (pStmt L (pBlock n) n) 131073 []
    pShut L [125]
    return l
def pFunc : PM XF := do
  pTake L [102, 110]
  let name ← pKind L 1
  pTake L [40]
  let ps ← pList L [41] (pParam L)
  pTake L [41]
  if ← pMaybe L [58] then
    let l ← pLabel L
    let ty ← pScalar L l
    let b ← pBlock L 65
    return ⟨name.pos, name.text, ps, true, ty, b⟩
  else
    let b ← pBlock L 65
    return ⟨name.pos, name.text, ps, false, ⟨0, 0, 0⟩, b⟩
def pFuncs : Nat → List XF → PM (List XF)
  | 0, _ => pFail L 99
  | m + 1, l => do
    let t ← pHere L
    if t.kind = 0 then return l
    else
      let f ← pFunc L
      pFuncs m (l ++ [f])
end

/-- The program of a text, or its error and place. -/
def parseS (s : List UInt8) : List XF × Nat × Nat :=
  if (lexS s).2.1 = 0 then match pFuncs (lexS s).1 131073 [] 0 0 with
    | .ok l _ _ => (l, 0, 0)
    | .bad e p _ _ => ([], e, p)
  else ([], (lexS s).2.1, (lexS s).2.2)
end Go.Proofs.YtkeoalhglkfbkaaDoor

/-
  How far the parser goes: never past the last token, and as deep as before. No conditions.
-/
namespace Go.Proofs.YtkeoalhglkfbkaaDoor
open Go Hk

/-- The last token alone is the end. -/
def TokOk (L : List Token) : Prop := ∀ (i : Nat) (t : Token), L[i]? = some t → t.kind ≠ 0 → i + 1 < L.length

/-- Goes on by s tokens at least, and changes how deep it is by k. -/
def PGood (L : List Token) {α : Type} (s : Nat) (k : Nat → Nat) (x : PM α) : Prop :=
  ∀ a d v a' d', x a d = .ok v a' d' → a < L.length → a + s ≤ a' ∧ a' < L.length ∧ d' = k d

section
variable {L : List Token} {α β : Type}

theorem tk_of {a : Nat} {t : Token} (h : L[a]? = some t) : tk L a = t := by simp [tk, h]
theorem tk_some {a : Nat} (h : a < L.length) : L[a]? = some (tk L a) := by simp [tk, h]

theorem PGood.mono {s s' : Nat} {k k' : Nat → Nat} {x : PM α} (hx : PGood L s k x) (hs : s' ≤ s) (hk : ∀ d, k d = k' d) : PGood L s' k' x := by
  intro a d v a' d' h ha
  obtain ⟨h1, h2, h3⟩ := hx a d v a' d' h ha
  exact ⟨by omega, h2, by rw [h3, hk]⟩
theorem PGood.bind {s s' : Nat} {k k' : Nat → Nat} {x : PM α} {f : α → PM β} (hx : PGood L s k x) (hf : ∀ v, PGood L s' k' (f v)) : PGood L (s + s') (fun d => k' (k d)) (x >>= f) := by
  intro a d v a' d' h ha
  rw [pm_bind] at h
  unfold PM.bind at h
  cases hx1 : x a d with
  | bad e p a1 d1 => rw [hx1] at h; cases h
  | ok v1 a1 d1 =>
    rw [hx1] at h
    obtain ⟨h1, h2, h3⟩ := hx a d v1 a1 d1 hx1 ha
    obtain ⟨h4, h5, h6⟩ := hf v1 a1 d1 v a' d' h h2
    exact ⟨by omega, h5, by rw [h6, h3]⟩
theorem PGood.pure {v : α} : PGood L 0 (fun d => d) (Pure.pure v : PM α) := by
  intro a d v' a' d' h ha
  cases h
  exact ⟨Nat.le_refl _, ha, rfl⟩
theorem PGood.fail {e : Nat} {s : Nat} {k : Nat → Nat} : PGood L s k (pFail L e : PM α) := by
  intro a d v a' d' h; cases h
theorem PGood.ite {c : Prop} [Decidable c] {s : Nat} {k : Nat → Nat} {x y : PM α} (hx : PGood L s k x) (hy : PGood L s k y) : PGood L s k (if c then x else y) := by
  split
  · exact hx
  · exact hy

variable (hL : TokOk L)
include hL

theorem isS_lt {a : Nat} {w : List UInt8} (ha : a < L.length) (h : isS (tk L a) w = true) : a + 1 < L.length := by
  refine hL a _ (tk_some ha) fun h0 => ?_
  simp [isS, h0] at h
theorem kind_lt {a k : Nat} (ha : a < L.length) (hk : k ≠ 0) (h : (tk L a).kind = k) : a + 1 < L.length := hL a _ (tk_some ha) (by omega)

omit hL in
theorem g_here : PGood L 0 (fun d => d) (pHere L) := by
  intro a d v a' d' h ha; cases h; exact ⟨Nat.le_refl _, ha, rfl⟩
omit hL in
theorem g_is {w : List UInt8} : PGood L 0 (fun d => d) (pIs L w) := by
  intro a d v a' d' h ha; cases h; exact ⟨Nat.le_refl _, ha, rfl⟩
theorem g_maybe {w : List UInt8} : PGood L 0 (fun d => d) (pMaybe L w) := by
  intro a d v a' d' h ha
  unfold pMaybe at h
  cases h
  split
  · rename_i hs; exact ⟨by omega, isS_lt hL ha hs, rfl⟩
  · exact ⟨by omega, ha, rfl⟩
theorem g_take {w : List UInt8} : PGood L 1 (fun d => d) (pTake L w) := by
  intro a d v a' d' h ha
  unfold pTake at h
  split at h
  · rename_i hs; cases h; exact ⟨by omega, isS_lt hL ha hs, rfl⟩
  · cases h
theorem g_kind {k : Nat} (hk : k ≠ 0) : PGood L 1 (fun d => d) (pKind L k) := by
  intro a d v a' d' h ha
  unfold pKind at h
  split at h
  · rename_i hs; cases h; exact ⟨by omega, kind_lt hL ha hk hs, rfl⟩
  · cases h
theorem g_open {w : List UInt8} : PGood L 1 (fun d => d + 1) (pOpen L w) := by
  intro a d v a' d' h ha
  unfold pOpen at h
  split at h
  · rename_i hs
    split at h
    · cases h
    · cases h; exact ⟨by omega, isS_lt hL ha hs, rfl⟩
  · cases h
theorem g_shut {w : List UInt8} : PGood L 1 (fun d => d - 1) (pShut L w) := by
  intro a d v a' d' h ha
  unfold pShut at h
  split at h
  · rename_i hs; cases h; exact ⟨by omega, isS_lt hL ha hs, rfl⟩
  · cases h
theorem g_label : PGood L 1 (fun d => d) (pLabel L) := by
  intro a d v a' d' h ha
  unfold pLabel at h
  split at h
  · rename_i hs; cases h; exact ⟨by omega, isS_lt hL ha hs, rfl⟩
  · split at h
    · rename_i hs; cases h; exact ⟨by omega, isS_lt hL ha hs, rfl⟩
    · cases h
theorem g_scalar {l : Nat} : PGood L 1 (fun d => d) (pScalar L l) := by
  intro a d v a' d' h ha
  unfold pScalar at h
  split at h
  · rename_i hs; cases h; exact ⟨by omega, isS_lt hL ha hs, rfl⟩
  · split at h
    · rename_i hs; cases h; exact ⟨by omega, isS_lt hL ha hs, rfl⟩
    · cases h
theorem g_many : PGood L 1 (fun d => d) (pMany L) := by
  unfold pMany
  refine ((g_take hL).bind fun _ => g_here.bind fun t => (PGood.ite PGood.fail ?_ : PGood L 0 (fun d => d) _)).mono (by omega) fun _ => rfl
  exact ((g_kind hL (by decide)).bind fun _ => (g_take hL).bind fun _ => PGood.pure).mono (Nat.zero_le _) fun _ => rfl
theorem g_kinds {l : Nat} : PGood L 1 (fun d => d) (pKinds L l) := by
  unfold pKinds
  refine ((g_maybe hL).bind (s' := 1) (k' := fun d => d) fun b => PGood.ite ?_ ?_).mono (by omega) fun _ => rfl
  · exact ((g_many hL).bind fun _ => PGood.pure).mono (by omega) fun _ => rfl
  · refine ((g_scalar hL).bind (s' := 0) (k' := fun d => d) fun t => PGood.ite ?_ PGood.pure).mono (by omega) fun _ => rfl
    refine (g_is.bind (s' := 0) (k' := fun d => d) fun _ => PGood.ite ?_ PGood.pure).mono (by omega) fun _ => rfl
    exact ((g_many hL).bind fun _ => PGood.pure).mono (by omega) fun _ => rfl
theorem g_param : PGood L 1 (fun d => d) (pParam L) := by
  unfold pParam
  exact ((g_maybe hL).bind fun _ => (g_label hL).bind fun _ => (g_kind hL (by omega)).bind fun _ => (g_take hL).bind fun _ => (g_kinds hL).bind fun _ => PGood.pure).mono (by omega) fun _ => rfl
theorem g_more {one : PM α} (h1 : PGood L 1 (fun d => d) one) : ∀ (n : Nat) (l : List α), PGood L 1 (fun d => d) (pMore L one n l)
  | 0, _ => PGood.fail
  | n + 1, l => (h1.bind (s' := 0) (k' := fun d => d) fun x => ((g_maybe hL).bind (s' := 0) (k' := fun d => d) fun b => PGood.ite ((g_more h1 n _).mono (by omega) fun _ => rfl) PGood.pure).mono (by omega) fun _ => rfl).mono (by omega) fun _ => rfl
theorem g_list {one : PM α} {w : List UInt8} (h1 : PGood L 1 (fun d => d) one) : PGood L 0 (fun d => d) (pList L w one) := by
  unfold pList
  exact (g_is.bind (s' := 0) (k' := fun d => d) fun b => PGood.ite PGood.pure ((g_more hL h1 _ _).mono (by omega) fun _ => rfl)).mono (by omega) fun _ => rfl

section
variable {ex un : PM XE} (he : PGood L 1 (fun d => d) ex) (hu : PGood L 1 (fun d => d) un)
include he
theorem g_index : PGood L 1 (fun d => d) (pIndex L ex) := by
  unfold pIndex
  exact ((g_open hL).bind fun _ => he.bind fun _ => (g_shut hL).bind fun _ => PGood.pure).mono (by omega) fun _ => Nat.add_sub_cancel _ _
theorem g_call {t : Token} : PGood L 1 (fun d => d) (pCall L ex t) := by
  unfold pCall
  exact ((g_open hL).bind fun _ => (g_list hL he).bind fun _ => (g_shut hL).bind fun _ => PGood.pure).mono (by omega) fun _ => Nat.add_sub_cancel _ _
theorem g_args : ∀ (n : Nat) (b : Bool) (l : List XE), PGood L 0 (fun d => d) (pArgs L ex n b l)
  | 0, _, _ => PGood.pure
  | n + 1, b, l => by
    unfold pArgs
    have h1 : PGood L 0 (fun d => d) (do let x ← ex; pArgs L ex n false (l ++ [x]) : PM (List XE)) := (he.bind fun _ => g_args n _ _).mono (by omega) fun _ => rfl
    cases b
    · exact ((g_take hL).bind fun _ => h1).mono (by omega) fun _ => rfl
    · exact ((PGood.pure (v := PUnit.unit)).bind fun _ => h1).mono (by omega) fun _ => rfl
end

/-! ### Where the token at hand is looked at first -/
omit hL
def GoodAt (L : List Token) {α : Type} (s : Nat) (k : Nat → Nat) (x : PM α) (a : Nat) : Prop :=
  ∀ d v a' d', x a d = .ok v a' d' → a + s ≤ a' ∧ a' < L.length ∧ d' = k d
theorem PGood.at {s : Nat} {k : Nat → Nat} {x : PM α} (h : PGood L s k x) {a : Nat} (ha : a < L.length) : GoodAt L s k x a := fun d v a' d' hx => h a d v a' d' hx ha
theorem GoodAt.all {s : Nat} {k : Nat → Nat} {x : PM α} (h : ∀ a, a < L.length → GoodAt L s k x a) : PGood L s k x := fun a d v a' d' hx ha => h a ha d v a' d' hx
theorem GoodAt.here {s : Nat} {k : Nat → Nat} {f : Token → PM α} {a : Nat} (h : GoodAt L s k (f (tk L a)) a) : GoodAt L s k (pHere L >>= f) a := fun d v a' d' hx => h d v a' d' hx
theorem GoodAt.next {s : Nat} {k : Nat → Nat} {f : Unit → PM α} {a : Nat} (ha : a + 1 < L.length) (h : PGood L s k (f ())) : GoodAt L (s + 1) k (pNext >>= f) a := fun d v a' d' hx => by
  obtain ⟨h1, h2, h3⟩ := h (a + 1) d v a' d' hx ha
  exact ⟨by omega, h2, h3⟩
theorem GoodAt.mono {s s' : Nat} {k k' : Nat → Nat} {x : PM α} {a : Nat} (hx : GoodAt L s k x a) (hs : s' ≤ s) (hk : ∀ d, k d = k' d) : GoodAt L s' k' x a := by
  intro d v a' d' h
  obtain ⟨h1, h2, h3⟩ := hx d v a' d' h
  exact ⟨by omega, h2, by rw [h3, hk]⟩
theorem GoodAt.ite {c : Prop} [Decidable c] {s : Nat} {k : Nat → Nat} {x y : PM α} {a : Nat} (hx : c → GoodAt L s k x a) (hy : ¬ c → GoodAt L s k y a) : GoodAt L s k (if c then x else y) a := by
  split
  · rename_i h; exact hx h
  · rename_i h; exact hy h
theorem g_up : PGood L 0 (fun d => d - 1) pUp := by
  intro a d v a' d' h ha; cases h; exact ⟨Nat.le_refl _, ha, rfl⟩

include hL
section
variable {ex un : PM XE} (he : PGood L 1 (fun d => d) ex) (hu : PGood L 1 (fun d => d) un)
include he
theorem g_made {kind many a : Nat} {number : Bool} (ha : a + 1 < L.length) : GoodAt L 1 (fun d => d) (pMade L ex kind many number) a := by
  unfold pMade
  refine GoodAt.here ((GoodAt.next (s := 1) (k := fun d => d) ha ?_).mono (by omega) fun _ => rfl)
  refine ((g_open hL).bind (s' := 1) (k' := fun d => d - 1) fun _ => ((g_args hL he _ _ _).bind (s' := 1) (k' := fun d => d - 1) fun l => PGood.ite ?_ ?_).mono (by omega) fun _ => rfl).mono (by omega) fun _ => Nat.add_sub_cancel _ _
  · exact ((g_take hL).bind fun _ => (g_kind hL (by omega)).bind fun _ => (g_shut hL).bind fun _ => PGood.pure).mono (by omega) fun _ => rfl
  · exact ((g_shut hL).bind fun _ => PGood.pure).mono (by omega) fun _ => rfl
theorem g_primary : PGood L 1 (fun d => d) (pPrimary L ex) := by
  unfold pPrimary
  refine GoodAt.all fun a ha => GoodAt.here ?_
  refine GoodAt.ite (fun h => ?_) fun _ => GoodAt.ite (fun h => ?_) fun _ => GoodAt.ite (fun h => g_made hL he (isS_lt hL ha h)) fun _ => GoodAt.ite (fun h => g_made hL he (isS_lt hL ha h)) fun _ =>
    GoodAt.ite (fun h => g_made hL he (isS_lt hL ha h)) fun _ => GoodAt.ite (fun h => g_made hL he (isS_lt hL ha h)) fun _ => GoodAt.ite (fun h => g_made hL he (isS_lt hL ha h)) fun _ => PGood.at ?_ ha
  · exact GoodAt.next (s := 0) (k := fun d => d) (f := fun _ => pure _) (kind_lt (k := 2) hL ha (by decide) h) PGood.pure
  · refine PGood.at ?_ ha
    exact ((g_open hL).bind fun _ => he.bind fun _ => (g_shut hL).bind fun _ => PGood.pure).mono (by omega) fun _ => Nat.add_sub_cancel _ _
  · refine ((g_kind hL (by omega)).bind (s' := 0) (k' := fun d => d) fun _ => (g_is.bind (s' := 0) (k' := fun d => d) fun _ => PGood.ite ?_ ?_).mono (by omega) fun _ => rfl).mono (by omega) fun _ => rfl
    · exact (g_call hL he).mono (by omega) fun _ => rfl
    · refine (g_is.bind (s' := 0) (k' := fun d => d) fun _ => PGood.ite ?_ PGood.pure).mono (by omega) fun _ => rfl
      exact ((g_index hL he).bind fun _ => PGood.pure).mono (by omega) fun _ => rfl
include hu
theorem g_unary : PGood L 1 (fun d => d) (pUnary L ex un) := by
  have hs : ∀ kind, PGood L 1 (fun d => d) (pSign L un kind) := fun kind => by
    unfold pSign
    exact (g_here.bind fun t => (g_open hL).bind fun _ => hu.bind fun _ => g_up.bind fun _ => PGood.pure).mono (by omega) fun _ => Nat.add_sub_cancel _ _
  unfold pUnary
  exact (g_here.bind (s' := 1) (k' := fun d => d) fun t => PGood.ite (hs _) (PGood.ite (hs _) (PGood.ite (hs _) (g_primary hL he)))).mono (by omega) fun _ => rfl
end
omit hL in
theorem signOf_kind {t : Token} {k kind : Nat} (h : signOf t k = some kind) : t.kind = 4 := by
  unfold signOf at h
  split at h
  · assumption
  · cases h
theorem g_join {next : PM XE} (hn : PGood L 1 (fun d => d) next) (k : Nat) : ∀ (n : Nat) (x : XE), PGood L 0 (fun d => d) (pJoin L next k n x)
  | 0, _ => PGood.fail
  | n + 1, x => by
    unfold pJoin
    refine GoodAt.all fun a ha => GoodAt.here ?_
    cases hs : signOf (tk L a) k with
    | none => exact PGood.pure.at ha
    | some kind =>
      refine (GoodAt.next (s := 0) (k := fun d => d) (kind_lt (k := 4) hL ha (by decide) (signOf_kind hs)) (PGood.ite ?_ ?_)).mono (by omega) fun _ => rfl
      · exact ((g_kind hL (by omega)).bind fun _ => g_join hn k n _).mono (by omega) fun _ => rfl
      · exact (hn.bind fun _ => g_join hn k n _).mono (by omega) fun _ => rfl
theorem g_chain {un : PM XE} (hu : PGood L 1 (fun d => d) un) : ∀ j, PGood L 1 (fun d => d) (pChain L un j)
  | 0 => hu
  | j + 1 => ((g_chain hu j).bind fun _ => g_join hL (g_chain hu j) _ _ _).mono (by omega) fun _ => rfl
theorem g_expr {un : PM XE} (hu : PGood L 1 (fun d => d) un) : PGood L 1 (fun d => d) (pExpr L un) := by
  unfold pExpr
  refine ((g_chain hL hu 6).bind (s' := 0) (k' := fun d => d) fun x => GoodAt.all fun a ha => GoodAt.here ?_).mono (by omega) fun _ => rfl
  cases hs : signOf (tk L a) 0 with
  | none => exact PGood.pure.at ha
  | some kind =>
    refine (GoodAt.next (s := 0) (k := fun d => d) (kind_lt (k := 4) hL ha (by decide) (signOf_kind hs)) ?_).mono (by omega) fun _ => rfl
    exact ((g_chain hL hu 6).bind fun _ => PGood.pure).mono (by omega) fun _ => rfl
theorem g_un : ∀ n, PGood L 1 (fun d => d) (pUn L n)
  | 0 => PGood.fail
  | n + 1 => g_unary hL (g_expr hL (g_un n)) (g_un n)
theorem g_ex (n : Nat) : PGood L 1 (fun d => d) (pEx L n) := g_expr hL (g_un hL n)
theorem g_end (n : Nat) : PGood L 1 (fun d => d) (pEnd L n) := by
  unfold pEnd
  exact ((g_ex hL n).bind fun _ => (g_take hL).bind fun _ => PGood.pure).mono (by omega) fun _ => rfl
theorem g_named (n pos : Nat) : PGood L 1 (fun d => d) (pNamed L n pos) := by
  unfold pNamed
  refine ((g_kind hL (by omega)).bind (s' := 0) (k' := fun d => d) fun _ => (g_is.bind (s' := 0) (k' := fun d => d) fun _ => PGood.ite ?_ ?_).mono (by omega) fun _ => rfl).mono (by omega) fun _ => rfl
  · exact ((g_call hL (g_ex hL _)).bind fun _ => (g_take hL).bind fun _ => PGood.pure).mono (by omega) fun _ => rfl
  · refine (g_is.bind (s' := 0) (k' := fun d => d) fun _ => PGood.ite ?_ ?_).mono (by omega) fun _ => rfl
    · exact ((g_index hL (g_ex hL _)).bind fun _ => (g_take hL).bind fun _ => (g_end hL _).bind fun _ => PGood.pure).mono (by omega) fun _ => rfl
    · exact ((g_take hL).bind fun _ => (g_end hL _).bind fun _ => PGood.pure).mono (by omega) fun _ => rfl
theorem g_stmt {block : PM (List XS)} (hb : PGood L 1 (fun d => d) block) (n : Nat) : PGood L 1 (fun d => d) (pStmt L block n) := by
  unfold pStmt
  refine (g_here.bind (s' := 1) (k' := fun d => d) fun _ => ((g_maybe hL).bind (s' := 1) (k' := fun d => d) fun _ => PGood.ite ?_ ?_).mono (by omega) fun _ => rfl).mono (by omega) fun _ => rfl
  · exact ((g_kind hL (by omega)).bind fun _ => (g_take hL).bind fun _ => (g_end hL _).bind fun _ => PGood.pure).mono (by omega) fun _ => rfl
  refine ((g_maybe hL).bind (s' := 1) (k' := fun d => d) fun _ => PGood.ite ?_ ?_).mono (by omega) fun _ => rfl
  · exact ((g_label hL).bind fun _ => (g_kind hL (by omega)).bind fun _ => (g_take hL).bind fun _ => (g_kinds hL).bind fun _ => (g_take hL).bind fun _ => PGood.pure).mono (by omega) fun _ => rfl
  refine ((g_maybe hL).bind (s' := 1) (k' := fun d => d) fun _ => PGood.ite ?_ ?_).mono (by omega) fun _ => rfl
  · refine ((g_ex hL n).bind (s' := 1) (k' := fun d => d) fun _ => (hb.bind (s' := 0) (k' := fun d => d) fun _ => ((g_maybe hL).bind (s' := 0) (k' := fun d => d) fun _ => PGood.ite ?_ PGood.pure).mono (by omega) fun _ => rfl).mono (by omega) fun _ => rfl).mono (by omega) fun _ => rfl
    exact (hb.bind fun _ => PGood.pure).mono (by omega) fun _ => rfl
  refine ((g_maybe hL).bind (s' := 1) (k' := fun d => d) fun _ => PGood.ite ?_ ?_).mono (by omega) fun _ => rfl
  · exact ((g_kind hL (by omega)).bind fun _ => (g_take hL).bind fun _ => (g_ex hL n).bind fun _ => (g_take hL).bind fun _ => (g_kind hL (by omega)).bind fun _ => hb.bind fun _ => PGood.pure).mono (by omega) fun _ => rfl
  refine ((g_maybe hL).bind (s' := 1) (k' := fun d => d) fun _ => PGood.ite ?_ (g_named hL _ _)).mono (by omega) fun _ => rfl
  exact ((g_end hL n).bind fun _ => PGood.pure).mono (by omega) fun _ => rfl
omit hL in
theorem g_stmts {stmt : PM XS} (hs : PGood L 1 (fun d => d) stmt) : ∀ (m : Nat) (l : List XS), PGood L 0 (fun d => d) (pStmts L stmt m l)
  | 0, _ => PGood.fail
  | m + 1, l => (g_is.bind (s' := 0) (k' := fun d => d) fun _ => PGood.ite PGood.pure ((hs.bind fun _ => g_stmts hs m _).mono (by omega) fun _ => rfl)).mono (by omega) fun _ => rfl
theorem g_block : ∀ n, PGood L 1 (fun d => d) (pBlock L n)
  | 0 => PGood.fail
  | n + 1 => ((g_open hL).bind fun _ => (g_stmts (g_stmt hL (g_block n) n) _ _).bind fun _ => (g_shut hL).bind fun _ => PGood.pure).mono (by omega) fun _ => Nat.add_sub_cancel _ _
theorem g_func : PGood L 1 (fun d => d) (pFunc L) := by
  unfold pFunc
  refine ((g_take hL).bind fun _ => (g_kind hL (by omega)).bind fun _ => (g_take hL).bind fun _ => (g_list hL (g_param hL)).bind fun _ => (g_take hL).bind fun _ => ((g_maybe hL).bind (s' := 0) (k' := fun d => d) fun _ => PGood.ite ?_ ?_)).mono (by omega) fun _ => rfl
  · exact ((g_label hL).bind fun _ => (g_scalar hL).bind fun _ => (g_block hL _).bind fun _ => PGood.pure).mono (by omega) fun _ => rfl
  · exact ((g_block hL _).bind fun _ => PGood.pure).mono (by omega) fun _ => rfl
theorem g_funcs : ∀ (m : Nat) (l : List XF), PGood L 0 (fun d => d) (pFuncs L m l)
  | 0, _ => PGood.fail
  | m + 1, l => (g_here.bind (s' := 0) (k' := fun d => d) fun _ => PGood.ite PGood.pure (((g_func hL).bind fun _ => g_funcs m _).mono (by omega) fun _ => rfl)).mono (by omega) fun _ => rfl
end
end Go.Proofs.YtkeoalhglkfbkaaDoor

/-
  The parser's heap, and its least functions: by the evaluator. No conditions.
-/
namespace Go.Proofs.YtkeoalhglkfbkaaDoor
open Go Hk

/-- Blocks that stay when what lies from n on is dropped. -/
def KBn (n : Nat) (C : List ABlk) : Prop := ∀ m h, n ≤ m → sanBlks m h C = some C
def CBn (n : Nat) (cs : List AVal) : Prop := ∀ m h, n ≤ m → sanCells m h cs = some cs
section
variable {n : Nat}
theorem KBn.mono {k : Nat} {C : List ABlk} (h : KBn n C) (hk : n ≤ k) : KBn k C := fun m x hm => h m x (Nat.le_trans hk hm)
theorem sanBlks_app {m : Nat} {h : Heap} : ∀ {B C : List ABlk}, sanBlks m h B = some B → sanBlks m h C = some C → sanBlks m h (B ++ C) = some (B ++ C)
  | [], _, _, h2 => h2
  | b :: r, C, h1, h2 => by
    simp only [sanBlks] at h1
    split at h1
    · rename_i b' r' e1 e2
      simp only [Option.some.injEq, List.cons.injEq] at h1
      obtain ⟨rfl, rfl⟩ := h1
      simp only [List.cons_append, sanBlks, e1, sanBlks_app e2 h2]
    · cases h1
theorem KBn_app {B C : List ABlk} (h1 : KBn n B) (h2 : KBn n C) : KBn n (B ++ C) := fun m h hm => sanBlks_app (h1 m h hm) (h2 m h hm)
theorem KBn_nil : KBn n [] := fun _ _ _ => rfl
theorem KBn_front {i j : Nat} {C : List ABlk} (h : KBn n C) : KBn n (.front i j :: C) := fun m x hm => by simp [h m x hm]
theorem KBn_cells {cs : List AVal} {C : List ABlk} (h1 : CBn n cs) (h : KBn n C) : KBn n (.cells cs :: C) := fun m x hm => by simp [h m x hm, h1 m x hm]
theorem CBn_nil : CBn n [] := fun _ _ _ => rfl
theorem CBn_int {k : IntKind} {z : Int} {cs : List AVal} (h : CBn n cs) : CBn n (.int k z :: cs) := fun m x hm => by simp [h m x hm]
theorem CBn_str {z : List UInt8} {cs : List AVal} (h : CBn n cs) : CBn n (.str z :: cs) := fun m x hm => by simp [h m x hm]
theorem CBn_bool {z : Bool} {cs : List AVal} (h : CBn n cs) : CBn n (.bool z :: cs) := fun m x hm => by simp [h m x hm]
theorem CBn_slice {rows : List (List AVal)} {cs : List AVal} (h : CBn n cs) : CBn n (.slice rows .no :: cs) := fun m x hm => by simp [h m x hm]
theorem CBn_own {rows : List (List AVal)} {id : Nat} {cs : List AVal} (hi : id < n) (h : CBn n cs) : CBn n (.slice rows (.own id) :: cs) := fun m x hm => by
  have : id < m := by omega
  simp [h m x hm, this]
theorem CBn_ptr {id o : Nat} {cs : List AVal} (hi : id < n) (h : CBn n cs) : CBn n (.ptr id o :: cs) := fun m x hm => by
  have : id < m := by omega
  simp [h m x hm, san1_ptr this, AVal.cellOk]
theorem CBn_tok {t : Token} {cs : List AVal} (h : CBn n cs) : CBn n (t.cells ++ cs) := CBn_int (CBn_int (CBn_int (CBn_str h)))
end

section
variable {n : Nat}
theorem KBn_front_iff {i j : Nat} {C : List ABlk} : KBn n (.front i j :: C) ↔ KBn n C := ⟨fun h m x hm => by
  have := h m x hm
  simp only [sanBlks_cons, sanBlk_front, Option.bind_some, Option.map_eq_some_iff] at this
  obtain ⟨r, h1, h2⟩ := this
  cases h2; exact h1, KBn_front⟩
theorem KBn_gone_iff {C : List ABlk} : KBn n (.gone :: C) ↔ KBn n C := ⟨fun h m x hm => by
  have := h m x hm
  have e : sanBlk m x .gone = some .gone := rfl
  simp only [sanBlks_cons, e, Option.bind_some, Option.map_eq_some_iff] at this
  obtain ⟨r, h1, h2⟩ := this
  cases h2; exact h1, fun h m x hm => by
  have e : sanBlk m x .gone = some .gone := rfl
  simp only [sanBlks_cons, e, Option.bind_some, h m x hm, Option.map_some]⟩
theorem KBn_cells_iff {cs : List AVal} {C : List ABlk} : KBn n (.cells cs :: C) ↔ CBn n cs ∧ KBn n C := ⟨fun h => by
  have key : ∀ m x, n ≤ m → sanCells m x cs = some cs ∧ sanBlks m x C = some C := fun m x hm => by
    have := h m x hm
    simp only [sanBlks_cons, sanBlk_cells, Option.bind_eq_some_iff, Option.map_eq_some_iff] at this
    obtain ⟨b, ⟨c, h1, h2⟩, r, h3, h4⟩ := this
    cases h2; cases h4; exact ⟨h1, h3⟩
  exact ⟨fun m x hm => (key m x hm).1, fun m x hm => (key m x hm).2⟩, fun h => KBn_cells h.1 h.2⟩
theorem CBn_any {v : AVal} {cs : List AVal} (hv : ∀ m x, n ≤ m → v.san1 m x = v) (hc : v.cellOk = true) : CBn n (v :: cs) ↔ CBn n cs := by
  constructor
  · intro h m x hm
    have := h m x hm
    simp only [sanCells_cons, hv m x hm, hc, cond_true, Option.map_eq_some_iff] at this
    obtain ⟨r, h1, h2⟩ := this
    cases h2; exact h1
  · intro h m x hm
    simp only [sanCells_cons, hv m x hm, hc, cond_true, h m x hm, Option.map_some]
theorem CBn_int_iff {k : IntKind} {z : Int} {cs : List AVal} : CBn n (.int k z :: cs) ↔ CBn n cs := CBn_any (fun _ _ _ => rfl) rfl
theorem CBn_str_iff {z : List UInt8} {cs : List AVal} : CBn n (.str z :: cs) ↔ CBn n cs := CBn_any (fun _ _ _ => rfl) rfl
theorem CBn_bool_iff {z : Bool} {cs : List AVal} : CBn n (.bool z :: cs) ↔ CBn n cs := CBn_any (fun _ _ _ => rfl) rfl
theorem CBn_slice_iff {rows : List (List AVal)} {cs : List AVal} : CBn n (.slice rows .no :: cs) ↔ CBn n cs := CBn_any (fun _ _ _ => rfl) rfl
theorem CBn_own_iff {rows : List (List AVal)} {id : Nat} {cs : List AVal} : CBn n (.slice rows (.own id) :: cs) ↔ id < n ∧ CBn n cs := by
  have key : ∀ hi : id < n, CBn n (.slice rows (.own id) :: cs) ↔ CBn n cs := fun hi => CBn_any (fun m x hm => by
    have : id < m := by omega
    simp [this]) rfl
  constructor
  · intro h
    have hi : id < n := by
      have := h n [] (Nat.le_refl _)
      by_cases hi : id < n
      · exact hi
      · exfalso
        simp only [sanCells_cons, san1_own, decide_eq_false hi, cond_false, cellOk_slice, cond_true, Option.map_eq_some_iff] at this
        obtain ⟨r, h1, h2⟩ := this
        cases h2
    exact ⟨hi, (key hi).1 h⟩
  · rintro ⟨hi, h⟩
    exact (key hi).2 h
theorem CBn_ptr_iff {id o : Nat} {cs : List AVal} : CBn n (.ptr id o :: cs) ↔ id < n ∧ CBn n cs := by
  have key : ∀ hi : id < n, CBn n (.ptr id o :: cs) ↔ CBn n cs := fun hi => CBn_any (fun m x hm => by
    have : id < m := by omega
    simp [san1_ptr this]) rfl
  constructor
  · intro h
    have hi : id < n := by
      have := h n [] (Nat.le_refl _)
      by_cases hi : id < n
      · exact hi
      · exfalso
        have e : (AVal.ptr id o).san1 n [] = .junk := by simp [AVal.san1, hi]
        simp [sanCells_cons, e, AVal.cellOk] at this
    exact ⟨hi, (key hi).1 h⟩
  · rintro ⟨hi, h⟩
    exact (key hi).2 h
theorem CBn_toks {t : Token} : CBn n t.cells := CBn_int (CBn_int (CBn_int (CBn_str CBn_nil)))
end

/-- The heap of a parser: what lies ahead of it, itself, and what lies behind. -/
def HQ (A : List ABlk) (L : List Token) (a d : Nat) (B : List ABlk) : Heap := A ++ PB L a d :: B
/-- Where what comes next lies. -/
def HN (A B : List ABlk) : Nat := A.length + 1 + B.length
structure KB (A B : List ABlk) : Prop where
  a : ∀ n, HN A B ≤ n → KBn n A
  b : ∀ n, HN A B ≤ n → KBn n B

section
variable {A B C : List ABlk} {L : List Token} {a d k : Nat}

theorem HN_app : HN A (B ++ C) = HN A B + C.length := by simp [HN]; omega
theorem KB.app (h : KB A B) (hC : KBn (HN A B + C.length) C) : KB A (B ++ C) := by
  refine ⟨fun n hn => ?_, fun n hn => ?_⟩
  · rw [HN_app] at hn
    exact (h.a (HN A B) (Nat.le_refl _)).mono (by omega)
  · rw [HN_app] at hn
    exact KBn_app ((h.b (HN A B) (Nat.le_refl _)).mono (by omega)) (hC.mono hn)
theorem HQ_app : HQ A L a d B ++ C = HQ A L a d (B ++ C) := by simp [HQ]
theorem HQ_len : (HQ A L a d B).length = HN A B := by simp [HQ, HN]; omega
theorem HQ_p : getBlk (HQ A L a d B) A.length = some [.slice (L.map Token.cells) .no, .int .i64 (a : Int), .int .i64 (d : Int)] := by simp [HQ, getBlk, PB]
theorem HQ_get : getBlk (HQ A L a d (B ++ C)) (HN A B + k) = getBlk C k := by
  unfold getBlk HQ HN
  rw [List.getElem?_append_right (by omega), show A.length + 1 + B.length + k - A.length = B.length + k + 1 by omega, List.getElem?_cons_succ, List.getElem?_append_right (by omega), show B.length + k - B.length = k by omega]
theorem HQ_get0 : getBlk (HQ A L a d (B ++ C)) (HN A B) = getBlk C 0 := HQ_get (k := 0)
theorem HQ_at : (HQ A L a d (B ++ C))[HN A B + k]? = C[k]? := by
  unfold HQ HN
  rw [List.getElem?_append_right (by omega), show A.length + 1 + B.length + k - A.length = B.length + k + 1 by omega, List.getElem?_cons_succ, List.getElem?_append_right (by omega), show B.length + k - B.length = k by omega]
theorem HQ_at0 : (HQ A L a d (B ++ C))[HN A B]? = C[0]? := HQ_at (k := 0)
theorem HQ_fresh : isFresh (HQ A L a d (B ++ C)) (HN A B + k) = isFresh C k := by unfold isFresh; rw [HQ_at]
theorem HQ_fresh0 : isFresh (HQ A L a d (B ++ C)) (HN A B) = isFresh C 0 := HQ_fresh (k := 0)
theorem HQ_set {x : ABlk} : List.set (HQ A L a d (B ++ C)) (HN A B + k) x = HQ A L a d (B ++ C.set k x) := by
  unfold HQ HN
  rw [List.set_append_right _ _ (by omega), show A.length + 1 + B.length + k - A.length = B.length + k + 1 by omega, List.set_cons_succ, List.set_append_right _ _ (by omega), show B.length + k - B.length = k by omega]
theorem HQ_set0 {x : ABlk} : List.set (HQ A L a d (B ++ C)) (HN A B) x = HQ A L a d (B ++ C.set 0 x) := HQ_set (k := 0)
theorem HQ_next : List.set (HQ A L a d B) A.length (.cells [.slice (L.map Token.cells) .no, .int .i64 ((a : Int) + 1), .int .i64 (d : Int)]) = HQ A L (a + 1) d B := by
  unfold HQ; rw [List.set_append_right _ _ (Nat.le_refl _), Nat.sub_self]; rfl
theorem HQ_deep {d' : Nat} : List.set (HQ A L a d B) A.length (.cells [.slice (L.map Token.cells) .no, .int .i64 (a : Int), .int .i64 (d' : Int)]) = HQ A L a d' B := by
  unfold HQ; rw [List.set_append_right _ _ (Nat.le_refl _), Nat.sub_self]; rfl
theorem HQ_deep1 : List.set (HQ A L a d B) A.length (.cells [.slice (L.map Token.cells) .no, .int .i64 (a : Int), .int .i64 ((d : Int) + 1)]) = HQ A L a (d + 1) B := HQ_deep (d' := d + 1)
theorem HQ_hide1 : hide1 (HQ A L a d (B ++ C)) (HN A B + k) = HQ A L a d (B ++ hide1 C k) := by
  unfold hide1
  rw [HQ_at]
  cases C[k]? with
  | none => rfl
  | some b => cases b <;> first | rfl | exact HQ_set
theorem HQ_hide10 : hide1 (HQ A L a d (B ++ C)) (HN A B) = HQ A L a d (B ++ hide1 C 0) := HQ_hide1 (k := 0)
theorem HQ_unhide1 {a' d' : Nat} {C' : List ABlk} : unhide1 (HQ A L a d (B ++ C)) (HQ A L a' d' (B ++ C')) (HN A B + k) = HQ A L a' d' (B ++ unhide1 C C' k) := by
  unfold unhide1
  rw [HQ_at]
  cases C[k]? with
  | none => rfl
  | some b => cases b <;> first | rfl | exact HQ_set
theorem HQ_unhide10 {a' d' : Nat} {C' : List ABlk} : unhide1 (HQ A L a d (B ++ C)) (HQ A L a' d' (B ++ C')) (HN A B) = HQ A L a' d' (B ++ unhide1 C C' 0) := HQ_unhide1 (k := 0)
theorem hide1_cells {cs : List AVal} {C : List ABlk} : hide1 (.cells cs :: C) 0 = .gone :: C := (rfl)
theorem hide1_gone {C : List ABlk} : hide1 (.gone :: C) 0 = .gone :: C := (rfl)
theorem hide1_succ {b : ABlk} {C : List ABlk} {k : Nat} : hide1 (b :: C) (k + 1) = b :: hide1 C k := by
  unfold hide1
  simp only [List.getElem?_cons_succ]
  cases C[k]? with
  | none => rfl
  | some b => cases b <;> rfl
theorem unhide1_cells {cs : List AVal} {b : ABlk} {C C' : List ABlk} : unhide1 (.cells cs :: C) (b :: C') 0 = .cells cs :: C' := (rfl)
theorem unhide1_succ {b b' : ABlk} {C C' : List ABlk} {k : Nat} : unhide1 (b :: C) (b' :: C') (k + 1) = b' :: unhide1 C C' k := by
  unfold unhide1
  simp only [List.getElem?_cons_succ]
  cases C[k]? with
  | none => rfl
  | some b => cases b <;> rfl
theorem hide_nil {h : Heap} : hide [] h = h := (rfl)
theorem hide_cons {h : Heap} {i : Nat} {ids : List Nat} : hide (i :: ids) h = hide ids (hide1 h i) := (rfl)
theorem unhide_nil {h h' : Heap} : unhide [] h h' = h' := (rfl)
theorem unhide_cons {h h' : Heap} {i : Nat} {ids : List Nat} : unhide (i :: ids) h h' = unhide ids h (unhide1 h h' i) := (rfl)
theorem addrId_ptr {i o : Nat} : addrId (.ptr i o) = some i := (rfl)
theorem addrId_pptr {cs : List AVal} : addrId (.pptr cs) = none := (rfl)
theorem HQ_deepS {d' : Nat} : List.set (HQ A L (a + 1) d B) A.length (.cells [.slice (L.map Token.cells) .no, .int .i64 ((a : Int) + 1), .int .i64 (d' : Int)]) = HQ A L (a + 1) d' B := HQ_deep (a := a + 1)
theorem HQ_deepS1 : List.set (HQ A L (a + 1) d B) A.length (.cells [.slice (L.map Token.cells) .no, .int .i64 ((a : Int) + 1), .int .i64 ((d : Int) + 1)]) = HQ A L (a + 1) (d + 1) B := HQ_deep1 (a := a + 1)
theorem HQ_nextS : List.set (HQ A L a (d + 1) B) A.length (.cells [.slice (L.map Token.cells) .no, .int .i64 ((a : Int) + 1), .int .i64 ((d : Int) + 1)]) = HQ A L (a + 1) (d + 1) B := HQ_next (d := d + 1)
theorem HQ_trunc (h : KB A B) : trunc (HN A B) (HQ A L a d (B ++ C)) = some (HQ A L a d B) := by
  have e : HQ A L a d (B ++ C) = HQ A L a d B ++ C := HQ_app.symm
  unfold Hk.trunc
  rw [e, ← HQ_len (L := L) (a := a) (d := d), List.take_left, HQ_len]
  exact sanBlks_app (h.a _ (Nat.le_refl _) _ _ (Nat.le_refl _)) (by
    have : sanBlk (HN A B) (HQ A L a d B ++ C) (PB L a d) = some (PB L a d) := rfl
    simp only [sanBlks, this, h.b _ (Nat.le_refl _) _ _ (Nat.le_refl _)])
theorem HQ_trunc0 (h : KB A B) : trunc (HN A B) (HQ A L a d B) = some (HQ A L a d B) := by
  have := HQ_trunc (L := L) (a := a) (d := d) (C := []) h
  rwa [List.append_nil] at this
theorem HQ_finR {v : AVal} (h : KB A B) : finR (HN A B) v (HQ A L a d (B ++ C)) = some (.ret (v.san (HN A B) (HQ A L a d (B ++ C))).untok, HQ A L a d B) := by simp [finR, HQ_trunc h]
theorem HQ_finP {v : AVal} (h : KB A B) : finP (HN A B) v (HQ A L a d (B ++ C)) = some (.pan (v.san (HN A B) (HQ A L a d (B ++ C))).untok, HQ A L a d B) := by simp [finP, HQ_trunc h]
theorem HQ_finR0 {v : AVal} (h : KB A B) : finR (HN A B) v (HQ A L a d B) = some (.ret (v.san (HN A B) (HQ A L a d B)).untok, HQ A L a d B) := by simp [finR, HQ_trunc0 h]
theorem HQ_finP0 {v : AVal} (h : KB A B) : finP (HN A B) v (HQ A L a d B) = some (.pan (v.san (HN A B) (HQ A L a d B)).untok, HQ A L a d B) := by simp [finP, HQ_trunc0 h]
end

def Out.res {α : Type} (enc : α → AVal) (A : List ABlk) (L : List Token) (B : List ABlk) : Out α → Res × Heap
  | .ok v a d => (.ret (enc v), HQ A L a d B)
  | .bad e p a d => (.pan (wrongV e p), HQ A L a d B)
section
variable {α : Type} {enc : α → AVal} {A B : List ABlk} {L : List Token} {a d e p : Nat} {v : α}
theorem res_ok : (Out.ok v a d).res enc A L B = (.ret (enc v), HQ A L a d B) := rfl
theorem res_bad : (Out.bad e p a d : Out α).res enc A L B = (.pan (wrongV e p), HQ A L a d B) := rfl
end

/-- The function, with these arguments behind the parser, does so. -/
def Does (L : List Token) (dk : Nat → Prop) (f : Nat) (args : List AVal) {α : Type} (enc : α → AVal) (x : PM α) : Prop :=
  ∀ A B a d, a < L.length → dk d → KB A B → KK f (.ptr A.length 0 :: args) (HQ A L a d B) = some ((x a d).res enc A L B)

def uEnc : Unit → AVal := fun _ => .tuple []
def bEnc : Bool → AVal := .bool
def tEnc : Token → AVal := fun t => .agg t.cells
def nEnc : Nat → AVal := fun n => .int .i64 (n : Int)

section
variable {L : List Token} (hL : L.length ≤ 131072)

attribute [simp] HQ_hide1 HQ_hide10 HQ_unhide1 HQ_unhide10 hide1_cells hide1_gone hide1_succ unhide1_cells unhide1_succ hide_nil hide_cons unhide_nil unhide_cons addrId_ptr addrId_pptr lockIds
attribute [simp] HQ_fresh HQ_fresh0 HN_app HQ_len HQ_app HQ_get HQ_get0 HQ_at HQ_at0 HQ_set HQ_set0 HQ_p HQ_next HQ_nextS HQ_deep HQ_deep1 HQ_deepS HQ_deepS1 HQ_finR HQ_finP HQ_finR0 HQ_finP0 res_ok res_bad
attribute [simp] KB.app KBn_nil KBn_front_iff KBn_gone_iff KBn_cells_iff CBn_nil CBn_int_iff CBn_str_iff CBn_bool_iff CBn_slice_iff CBn_own_iff CBn_ptr_iff CBn_toks
attribute [simp] anew tokCells putCells tok_len tok_take tok_ok2 san_tok untok_tok keep_tok tk_some abuild afield apart
theorem tk_get {L : List Token} {a : Nat} {h : a < L.length} : L[a]'h = tk L a := by simp [tk, h]
attribute [simp] tk_get
theorem wrapS {a : Nat} (h : a ≤ 9223372036854775806) : IntKind.wrap .i64 ((a : Int) + 1) = (a : Int) + 1 := by rw [wrap64] <;> omega
theorem wrapN {a : Nat} (h : a ≤ 9223372036854775807) : IntKind.wrap .i64 (a : Int) = (a : Int) := by rw [wrap64] <;> omega

theorem d76 : Does L (fun _ => True) 76 [] tEnc (pHere L) := by
  intro A B a d ha hd hB
  refine evW_by (m76_eq _ _ _) ?_
  simp -implicitDefEqProofs [m76, ha, hB, pHere, tEnc]
theorem d178 (w : List UInt8) : Does L (fun _ => True) 178 [.str w] bEnc (pIs L w) := by
  intro A B a d ha hd hB
  refine evW_by (m178_eq _ _ _ _) ?_
  have h76 := d76 (L := L)
  unfold Does at h76
  simp -implicitDefEqProofs [m178, ha, hB, h76, pHere, pIs, bEnc, tEnc]
  generalize tk L a = t
  obtain ⟨k, p, q, x⟩ := t
  by_cases h1 : k = 3
  · subst h1
    by_cases h3 : x = w <;> simp -implicitDefEqProofs [Token.cells, ha, hB, isS, h3]
  · have h1' : ¬ (k : Int) = 3 := by omega
    by_cases h2 : k = 4
    · subst h2
      by_cases h3 : x = w <;> simp -implicitDefEqProofs [Token.cells, ha, hB, isS, h3]
    · have h2' : ¬ (k : Int) = 4 := by omega
      simp -implicitDefEqProofs [Token.cells, ha, hB, isS, h1, h1', h2, h2']

theorem isS_bool {b : Bool} : ∀ {α : Type} {x y : α}, (if b then x else y) = bif b then x else y := by intro α x y; cases b <;> rfl
include hL
theorem d143 (w : List UInt8) : Does L (fun _ => True) 143 [.str w] bEnc (pMaybe L w) := by
  intro A B a d ha hd hB
  refine evW_by (m143_eq _ _ _ _) ?_
  have h178 := d178 (L := L)
  unfold Does at h178
  have w1 := wrapS (a := a) (by omega)
  cases hs : isS (tk L a) w <;> simp -implicitDefEqProofs [m143, ha, hB, h178, pMaybe, pIs, bEnc, hs, w1]
omit hL in
theorem d179 (e : Nat) {α : Type} {enc : α → AVal} : Does L (fun _ => True) 179 [.int .i64 (e : Int)] enc (pFail L e) := by
  intro A B a d ha hd hB
  refine evW_by (m179_eq _ _ _ _) ?_
  have h76 := d76 (L := L)
  unfold Does at h76
  simp -implicitDefEqProofs [m179, ha, hB, h76, pHere, pFail, tEnc, Token.cells, apanic, wrongV, wrong_keep]
theorem d138 (w : List UInt8) : Does L (fun _ => True) 138 [.str w] uEnc (pTake L w) := by
  intro A B a d ha hd hB
  refine evW_by (m138_eq _ _ _ _) ?_
  have h178 := d178 (L := L)
  have h179 := d179 (L := L) 10 (enc := uEnc)
  unfold Does at h178 h179
  have w1 := wrapS (a := a) (by omega)
  simp only [Int.cast_ofNat_Int] at h179
  cases hs : isS (tk L a) w <;> simp -implicitDefEqProofs [m138, ha, hB, h178, h179, pTake, pIs, pFail, uEnc, bEnc, hs, w1, wrongV, wrong_keep]
theorem d139 (k : Nat) : Does L (fun _ => True) 139 [.int .i64 (k : Int)] tEnc (pKind L k) := by
  intro A B a d ha hd hB
  refine evW_by (m139_eq _ _ _ _) ?_
  have h76 := d76 (L := L)
  have h179 := d179 (L := L) 10 (enc := uEnc)
  unfold Does at h76 h179
  simp only [Int.cast_ofNat_Int] at h179
  have w1 := wrapS (a := a) (by omega)
  simp -implicitDefEqProofs [m139, ha, hB, h76, pHere, pKind, tEnc]
  by_cases hk : (tk L a).kind = k
  · simp -implicitDefEqProofs [Token.cells, ha, hB, h76, hk, tEnc, w1]
  · have hk' : ¬ ((tk L a).kind : Int) = k := by omega
    simp -implicitDefEqProofs [Token.cells, ha, hB, h76, h179, hk, hk', tEnc, w1, pFail, wrongV, wrong_keep]
theorem d181 (w : List UInt8) : Does L (fun d => d ≤ 64) 181 [.str w] uEnc (pOpen L w) := by
  intro A B a d ha hd hB
  refine evW_by (m181_eq _ _ _ _) ?_
  have h178 := d178 (L := L)
  have h138 := d138 hL w
  have h179 := d179 (L := L) 11 (enc := uEnc)
  unfold Does at h178 h179 h138
  simp only [Int.cast_ofNat_Int] at h179
  have w1 := wrapS (a := d) (by omega)
  by_cases hd64 : d = 64
  · subst hd64
    cases hs : isS (tk L a) w <;> simp -implicitDefEqProofs [m181, ha, hB, h178, h138, h179, pTake, pIs, pOpen, pFail, uEnc, bEnc, hs, w1, wrongV, wrong_keep]
  · have hd64' : ¬ (d : Int) = 64 := by omega
    cases hs : isS (tk L a) w <;> simp -implicitDefEqProofs [m181, ha, hB, h178, h138, h179, pTake, pIs, pOpen, pFail, uEnc, bEnc, hs, w1, wrongV, wrong_keep, hd64, hd64']
theorem d183 (w : List UInt8) : Does L (fun d => 1 ≤ d ∧ d ≤ 65) 183 [.str w] uEnc (pShut L w) := by
  intro A B a d ha hd hB
  obtain ⟨d, rfl⟩ : ∃ e, d = e + 1 := ⟨d - 1, by omega⟩
  refine evW_by (m183_eq _ _ _ _) ?_
  have h138 := d138 hL w
  unfold Does at h138
  have w1 := wrapN (a := d) (by omega)
  cases hs : isS (tk L a) w <;> simp -implicitDefEqProofs [m183, ha, hB, h138, pTake, pShut, uEnc, hs, w1, wrongV, wrong_keep]
theorem d145 : Does L (fun _ => True) 145 [] nEnc (pLabel L) := by
  intro A B a d ha hd hB
  refine evW_by (m145_eq _ _ _) ?_
  have h143 := d143 hL
  have h138 := d138 hL
  unfold Does at h143 h138
  cases hs : isS (tk L a) secS
  · cases hq : isS (tk L a) pubS <;> simp only [secS, pubS] at hs hq <;> simp -implicitDefEqProofs [m145, ha, hB, h143, h138, pTake, pMaybe, pLabel, nEnc, uEnc, bEnc, hs, hq, secS, pubS, wrongV, wrong_keep]
  · simp only [secS] at hs
    simp -implicitDefEqProofs [m145, ha, hB, h143, h138, pTake, pMaybe, pLabel, nEnc, uEnc, bEnc, hs, secS, wrongV, wrong_keep]
def Ty.cells (t : Ty) : List AVal := [.int .i64 (t.elem : Int), .int .i64 (t.len : Int), .int .i64 (t.label : Int)]
def tyEnc (t : Ty) : AVal := .agg t.cells
theorem d144 (l : Nat) : Does L (fun _ => True) 144 [.int .i64 (l : Int)] tyEnc (pScalar L l) := by
  intro A B a d ha hd hB
  refine evW_by (m144_eq _ _ _ _) ?_
  have h143 := d143 hL
  have h138 := d138 hL
  unfold Does at h143 h138
  cases hs : isS (tk L a) maskS
  · cases hq : isS (tk L a) u32S <;> simp only [maskS, u32S] at hs hq <;> simp -implicitDefEqProofs [m144, ha, hB, h143, h138, pTake, pMaybe, pScalar, tyEnc, Ty.cells, uEnc, bEnc, hs, hq, maskS, u32S, wrongV, wrong_keep, int3_keep]
  · simp only [maskS] at hs
    simp -implicitDefEqProofs [m144, ha, hB, h143, h138, pTake, pMaybe, pScalar, tyEnc, Ty.cells, uEnc, bEnc, hs, maskS, wrongV, wrong_keep, int3_keep]
end
end Go.Proofs.YtkeoalhglkfbkaaDoor

/-
  The parser's functions on types and parameters, by the evaluator. No conditions.
-/
namespace Go.Proofs.YtkeoalhglkfbkaaDoor
open Go Hk
attribute [simp] pm_bind PM.bind pm_pure pIs pHere pMaybe pTake pKind pFail pOpen pShut pNext pUp tEnc uEnc nEnc bEnc tyEnc Ty.cells Token.cells wrongV wrong_keep

section
variable {L : List Token} (hL : L.length ≤ 131072) (hK : TokOk L)
include hL hK

theorem d228 : Does L (fun _ => True) 228 [] nEnc (pMany L) := by
  intro A B a d ha hd hB
  refine evW_by (m228_eq _ _ _) ?_
  have h138 := d138 hL
  have h139 := d139 hL 2
  have h76 := d76 (L := L)
  have h179 := d179 (L := L) 10 (enc := uEnc)
  unfold Does at h138 h139 h76 h179
  simp only [Int.cast_ofNat_Int] at h179 h139
  cases hs : isS (tk L a) [91]
  · simp -implicitDefEqProofs [m228, ha, hB, h138, pMany, hs]
  · have ha1 := isS_lt hK ha hs
    by_cases h2 : (tk L (a + 1)).kind = 2
    · have ha2 := kind_lt (k := 2) hK ha1 (by decide) h2
      by_cases h3 : (tk L (a + 1)).num = 0
      · simp -implicitDefEqProofs [m228, ha, ha1, hB, h138, h76, h179, h139, pMany, hs, h2, h3]
      · have h3' : ¬ ((tk L (a + 1)).num : Int) = 0 := by omega
        cases hs2 : isS (tk L (a + 1 + 1)) [93] <;>
          simp -implicitDefEqProofs [m228, ha, ha1, ha2, hB, h138, h76, h179, h139, pMany, hs, hs2, h2, h3, h3']
    · have h2' : ¬ ((tk L (a + 1)).kind : Int) = 2 := by omega
      simp -implicitDefEqProofs [m228, ha, ha1, hB, h138, h76, h179, h139, pMany, hs, h2, h2']

theorem d180 (l : Nat) : Does L (fun _ => True) 180 [.int .i64 (l : Int)] tyEnc (pKinds L l) := by
  intro A B a d ha hd hB
  refine evW_by (m180_eq _ _ _ _) ?_
  have h143 := d143 hL
  have h144 := d144 hL l
  have h228 := d228 hL hK
  have h178 := d178 (L := L)
  unfold Does at h143 h144 h228 h178
  cases hs : isS (tk L a) [117, 56]
  · simp -implicitDefEqProofs [m180, ha, hB, h143, h144, pKinds, hs]
    cases h1 : pScalar L l a d with
    | bad e p a1 d1 => simp -implicitDefEqProofs [hB]
    | ok t a1 d1 =>
      obtain ⟨g1, g2, g3⟩ := g_scalar hK a d _ _ _ h1 ha
      by_cases h2 : t.elem = 0
      · simp -implicitDefEqProofs [ha, hB, g2, h178, h228, h2]
        cases h3 : isS (tk L a1) [91]
        · simp -implicitDefEqProofs [hB, h2]
        · simp -implicitDefEqProofs [hB, g2, h228]
          cases h4 : pMany L a1 d1 with
          | bad e p a2 d2 => simp -implicitDefEqProofs [hB]
          | ok n a2 d2 => simp -implicitDefEqProofs [hB, h2]
      · have h2' : ¬ (t.elem : Int) = 0 := by omega
        simp -implicitDefEqProofs [ha, hB, g2, h178, h228, h2, h2']
  · have ha1 := isS_lt hK ha hs
    simp -implicitDefEqProofs [m180, ha, ha1, hB, h143, h228, pKinds, hs]
    cases h4 : pMany L (a + 1) d with
    | bad e p a2 d2 => simp -implicitDefEqProofs [hB]
    | ok n a2 d2 => simp -implicitDefEqProofs [hB]

theorem d142 : Does L (fun _ => True) 142 [] (fun x : XP => .agg ([.int .i64 (x.pos : Int), .str x.name] ++ x.ty.cells ++ [.bool x.out])) (pParam L) := by
  intro A B a d ha hd hB
  refine evW_by (m142_eq _ _ _) ?_
  have h143 := d143 hL
  have h145 := d145 hL
  have h139 := d139 hL 1
  have h138 := d138 hL
  have h180 := d180 hL hK
  unfold Does at h143 h145 h139 h138 h180
  simp only [Int.cast_ofNat_Int] at h139
  simp -implicitDefEqProofs [m142, ha, hB, h143, pParam]
  obtain ⟨a1, d1, e1⟩ : ∃ a1 d1, a1 = (if isS (tk L a) [111, 117, 116] = true then a + 1 else a) ∧ d1 = d := ⟨_, _, rfl, rfl⟩
  obtain ⟨e1, rfl⟩ := e1
  have ha1 : a1 < L.length := by
    subst e1; split
    · rename_i h; exact isS_lt hK ha h
    · exact ha
  rw [← e1]
  simp -implicitDefEqProofs [ha1, hB, h145]
  cases h1 : pLabel L a1 d1 with
  | bad e p a2 d2 => simp -implicitDefEqProofs [hB]
  | ok l a2 d2 =>
    obtain ⟨g1, ha2, rfl⟩ := g_label hK a1 d1 _ _ _ h1 ha1
    simp -implicitDefEqProofs [ha2, hB, h139]
    by_cases h2 : (tk L a2).kind = 1
    · have ha3 := kind_lt (k := 1) hK ha2 (by decide) h2
      simp -implicitDefEqProofs [ha3, hB, h2, h138]
      cases h3 : isS (tk L (a2 + 1)) [58]
      · simp -implicitDefEqProofs [hB]
      · have ha4 := isS_lt hK ha3 h3
        simp -implicitDefEqProofs [ha4, hB, h180]
        cases h4 : pKinds L l (a2 + 1 + 1) d2 with
        | bad e p a5 d5 => simp -implicitDefEqProofs [hB]
        | ok ty a5 d5 => simp -implicitDefEqProofs [hB]
    · simp -implicitDefEqProofs [hB, h2]
end
end Go.Proofs.YtkeoalhglkfbkaaDoor

/-
  Lists with commas between: tools. No conditions.
-/
namespace Go.Proofs.YtkeoalhglkfbkaaDoor
open Go Hk

theorem lpW_post {F : List AVal × Heap → Option R} {σ : Type} (enc : σ → List AVal × Heap) (inv : σ → Prop) (μ : σ → Nat) (Post : σ → R → Prop)
    (h : ∀ s, inv s → (∃ s', F (enc s) = some (.normal, enc s') ∧ inv s' ∧ μ s' < μ s ∧ ∀ r, Post s' r → Post s r) ∨ (∃ r, F (enc s) = some r ∧ r.1 ≠ .normal ∧ Post s r)) :
    ∀ s, inv s → ∃ r, lpW F (enc s) = some r ∧ Post s r := by
  have key : ∀ n s, μ s = n → inv s → ∃ r, lpW F (enc s) = some r ∧ Post s r := by
    intro n
    induction n using Nat.strongRecOn with
    | _ n ih =>
      intro s hn hi
      rw [lpW_step]
      rcases h s hi with ⟨s', e1, e2, e3, e4⟩ | ⟨r, e1, e2, e3⟩
      · obtain ⟨r, h1, h2⟩ := ih (μ s') (by omega) s' rfl e2
        refine ⟨r, ?_, e4 r h2⟩
        rw [e1]
        simp only [Option.bind_some, thenDo_normal]
        exact h1
      · refine ⟨r, ?_, e3⟩
        rw [e1]
        obtain ⟨e, l⟩ := r
        cases e <;> first | exact absurd rfl e2 | rfl
  exact fun s hi => key (μ s) s rfl hi

@[simp] theorem wrong_san {m : Nat} {h : Heap} {e p : Int} : AVal.san m h (.iface 137 (.agg [.int .i64 e, .int .i64 p])) = .iface 137 (.agg [.int .i64 e, .int .i64 p]) := (rfl)
@[simp] theorem wrong_untok {e p : Int} : AVal.untok (.iface 137 (.agg [.int .i64 e, .int .i64 p])) = .iface 137 (.agg [.int .i64 e, .int .i64 p]) := (rfl)

@[simp] theorem cells_ptr {i o : Nat} : AVal.cells (.ptr i o) = [.ptr i o] := (rfl)
@[simp] theorem cellOk_ptr {i o : Nat} : AVal.cellOk (.ptr i o) = true := (rfl)
@[simp] theorem untok_func {f : Nat} {x y : List AVal} : AVal.untok (.func f x y) = .func f x y := (rfl)
@[simp] theorem HN_succ {A B : List ABlk} {j k : Nat} : HN A B + j + k = HN A B + (j + k) := Nat.add_assoc _ _ _
@[simp] theorem dec_lt {n k : Nat} : decide (n + k < n) = false := by simp
theorem pMore_eq {L : List Token} {α : Type} {one : PM α} {n : Nat} {l : List α} {a d : Nat} : pMore L one (n + 1) l a d = match one a d with
    | .bad e p a1 d1 => .bad e p a1 d1
    | .ok x a1 d1 => if isS (tk L a1) [44] = true then pMore L one n (l ++ [x]) (a1 + 1) d1 else .ok (l ++ [x]) a1 d1 := by
  rw [pMore]
  simp only [pm_bind, PM.bind, pMaybe]
  cases one a d with
  | bad => rfl
  | ok x a1 d1 => cases h : isS (tk L a1) [44] <;> simp [h, pm_pure]

/-- Rows of so many cells, fit for persistent memory. -/
structure RowOk {α : Type} (enc : α → List AVal) (sz : Nat) : Prop where
  len : ∀ x, (enc x).length = sz
  pure : ∀ x, pureRow (enc x) = some (enc x)
  ok : ∀ x, (enc x).all AVal.cellOk = true

theorem abuildSlice1 {cs zero : List AVal} {sz : Nat} {h : Heap} (hl : cs.length = sz) (hz : zero.length = sz) (hp : pureRow cs = some cs) (ho : cs.all AVal.cellOk = true) :
    abuildSlice 1 sz zero [(0, .agg cs)] h = some (.slice [cs] (.own h.length), h ++ [.front 1 sz]) := by
  have e1 : abuild (List.replicate 1 zero).flatten ((List.range 1).map fun i => (i * sz, sz)) [(0, .agg cs)] = some (.agg cs) := by
    simp [abuild, hl, hz, putCells, AVal.isJunk, List.range_succ]
  simp only [abuildSlice, abuildRow, e1, hp, hz, ho, and_self, if_true, rowsOf]
  rw [← hl, List.take_length]

section
variable {A B C : List ABlk} {L : List Token} {a d k : Nat}
theorem HQ_app1 {rows new : List (List AVal)} {sz by_ sz' : Nat} {t : Tok} (hc : C[k]? = some (.front rows.length sz')) (hs : sz' = sz ∨ rows.length = 0 ∧ sz' = 0) (hr : ∀ r ∈ new, r.length = sz) (hn : new ≠ [])
    (hb : (rows.length + new.length) * by_ ≤ 140737488355328) (hb2 : rows.length + new.length ≤ 140737488355328) :
    aappend sz by_ (HQ A L a d (B ++ C)) (.slice rows (.own (HN A B + k))) (.slice new t) =
      some (.slice (rows ++ new) (.own (HN A B + k)), HQ A L a d (B ++ C.set k (.front (rows.length + new.length) sz))) := by
  have h1 : (new.all fun r => r.length == sz) = true := by simpa using hr
  have h2 : ¬ new.length = 0 := by simpa using hn
  simp only [aappend, arowsS, h1, if_true, HQ_at, hc]
  rw [if_pos ⟨trivial, hs, hb, hb2⟩, if_neg h2, HQ_set]

theorem HQ_truncK (h : KB A (B ++ C.take k)) (hk : k ≤ C.length) : trunc (HN A B + k) (HQ A L a d (B ++ C)) = some (HQ A L a d (B ++ C.take k)) := by
  have := HQ_trunc (L := L) (a := a) (d := d) (C := C.drop k) h
  rw [HN_app, List.append_assoc, List.take_append_drop, List.length_take, Nat.min_eq_left hk] at this
  exact this
theorem A_lt : A.length < HN A B + k := by simp [HN]; omega
theorem A_lt0 : A.length < HN A B := A_lt (k := 0)

/-- A block that holds the parser's address. -/
def Has (A B : List ABlk) (i : Nat) : Prop := ∃ j, i = A.length + 1 + j ∧ B[j]? = some (.cells [.ptr A.length 0])
theorem Has.app {i : Nat} (h : Has A B i) : Has A (B ++ C) i := by
  obtain ⟨j, h1, h2⟩ := h
  have := (List.getElem?_eq_some_iff.1 h2).1
  exact ⟨j, h1, by rw [List.getElem?_append_left this]; exact h2⟩
theorem Has.new : Has A (B ++ .cells [.ptr A.length 0] :: C) (HN A B) := ⟨B.length, rfl, by simp⟩
theorem Has.get {i : Nat} (h : Has A B i) : getBlk (HQ A L a d B) i = some [.ptr A.length 0] := by
  obtain ⟨j, rfl, h2⟩ := h
  unfold getBlk HQ
  rw [List.getElem?_append_right (by omega), show A.length + 1 + j - A.length = j + 1 by omega, List.getElem?_cons_succ, h2]
theorem Has.lt {i : Nat} (h : Has A B i) : i < HN A B + k := by
  obtain ⟨j, rfl, h2⟩ := h
  have := (List.getElem?_eq_some_iff.1 h2).1
  simp [HN]; omega
theorem san_func1 {m f i : Nat} {h : Heap} (hi : i < m) : AVal.san m h (.func f [] [.ptr i 0]) = .func f [] [.ptr i 0] := by
  have : AVal.san m h (.func f [] [.ptr i 0]) = bif (AVal.func f [] [.ptr i 0]).shut1 m then .func f [] [.ptr i 0] else .junk := rfl
  rw [this]
  simp [AVal.shut1, AVal.shut0, refOf, hi]
end
end Go.Proofs.YtkeoalhglkfbkaaDoor

/-
  The parser reads lists, by the evaluator. No conditions.
-/
namespace Go.Proofs.YtkeoalhglkfbkaaDoor
open Go Hk
def XP.cells (x : XP) : List AVal := [.int .i64 (x.pos : Int), .str x.name, .int .i64 (x.ty.elem : Int), .int .i64 (x.ty.len : Int), .int .i64 (x.ty.label : Int), .bool x.out]
/-- The size of a slice's elements, once it has some. -/
def fsz (n sz : Nat) : Nat := if n = 0 then 0 else sz
theorem fsz_zero {sz : Nat} : fsz 0 sz = 0 := (rfl)
theorem fsz_succ {n sz : Nat} : fsz (n + 1) sz = sz := by simp [fsz]
theorem fsz_or (n sz : Nat) : fsz n sz = sz ∨ n = 0 ∧ fsz n sz = 0 := by by_cases h : n = 0 <;> simp [fsz, h]
theorem XP.row : RowOk XP.cells 6 := ⟨fun _ => rfl, fun _ => rfl, fun _ => rfl⟩
mutual
def XE.cells : XE → List AVal
  | .mk k p n name args => [.int .i64 (k : Int), .int .i64 (p : Int), .int .i64 (n : Int), .str name, .slice (XE.rows args) .no]
def XE.rows : List XE → List (List AVal)
  | [] => []
  | x :: r => x.cells :: XE.rows r
end
theorem XE.rows_eq : ∀ l : List XE, XE.rows l = l.map XE.cells
  | [] => rfl
  | x :: r => by simp [XE.rows, XE.rows_eq r]
theorem XE.row : RowOk XE.cells 5 := ⟨fun x => by cases x; simp [XE.cells], fun x => by cases x; simp [XE.cells, pureRow, AVal.pure1], fun x => by cases x; simp [XE.cells]⟩

section
variable {L : List Token} (hL : L.length ≤ 131072) (hK : TokOk L)
include hL hK

/-- A list of XP, round by round. -/
theorem d140_loop {one : PM XP} (hg : PGood L 1 (fun d => d) one) {A B : List ABlk} {i d : Nat} (hB : KB A B) (hi : Has A B i)
    (hone : ∀ (C : List ABlk) (a : Nat), a < L.length → KB A (B ++ C) → KK 141 [.ptr i 0] (HQ A L a d (B ++ C)) = some ((one a d).res (fun x => .agg (XP.cells x)) A L (B ++ C))) (n : Nat) (l : List XP) (a : Nat) (ha : a < L.length) (hn : L.length < a + n) (hl : l.length ≤ a) :
    ∃ r, lpW (m140_l0 KK (HN A B + 2)) ([.ptr A.length 0, .func 141 [] [.ptr i 0], .slice [] (.own (HN A B)), .slice (l.map XP.cells) (.own (HN A B + 1))], HQ A L a d (B ++ [.front 0 0, .front l.length (fsz l.length 6)])) = some r ∧
      match pMore L one n l a d with
      | .ok l' a' d' => r = (.ret, [.ptr A.length 0, .func 141 [] [.ptr i 0], .slice (l'.map XP.cells) (.own (HN A B + 1)), .slice (l'.map XP.cells) (.own (HN A B + 1))], HQ A L a' d' (B ++ [.front 0 0, .front l'.length 6]))
      | .bad e p a' d' => ∃ vs C, r = (.pan (wrongV e p), vs, HQ A L a' d' (B ++ C)) := by
  have h143 := d143 hL
  unfold Does at h143
  refine lpW_post (σ := List XP × Nat × Nat) (fun s => ([.ptr A.length 0, .func 141 [] [.ptr i 0], .slice [] (.own (HN A B)), .slice (s.1.map XP.cells) (.own (HN A B + 1))], HQ A L s.2.1 d (B ++ [.front 0 0, .front s.1.length (fsz s.1.length 6)])))
    (fun s => s.2.1 < L.length ∧ L.length < s.2.1 + s.2.2 ∧ s.1.length ≤ s.2.1) (fun s => s.2.2)
    (fun s r => match pMore L one s.2.2 s.1 s.2.1 d with
      | .ok l' a' d' => r = (.ret, [.ptr A.length 0, .func 141 [] [.ptr i 0], .slice (l'.map XP.cells) (.own (HN A B + 1)), .slice (l'.map XP.cells) (.own (HN A B + 1))], HQ A L a' d' (B ++ [.front 0 0, .front l'.length 6]))
      | .bad e p a' d' => ∃ vs C, r = (.pan (wrongV e p), vs, HQ A L a' d' (B ++ C))) ?_ (l, a, n) ⟨ha, hn, hl⟩
  rintro ⟨l, a, n⟩ ⟨ha, hn, hl⟩
  simp only at ha hn hl
  have hi' : i < HN A B + 2 := hi.lt
  have hsf : ∀ h, AVal.san (HN A B + 2) h (.func 141 [] [.ptr i 0]) = .func 141 [] [.ptr i 0] := fun h => san_func1 hi'
  have hsp : ∀ h, AVal.san (HN A B + 2) h (.ptr A.length 0) = .ptr A.length 0 := fun h => san_ptr_lt A_lt
  have hKB : ∀ x y, KB A (B ++ [.front 0 0, .front x y]) := fun x y => hB.app (by simp)
  have htr : ∀ a x y C, trunc (HN A B + 2) (HQ A L a d (B ++ (.front 0 0 :: .front x y :: C))) = some (HQ A L a d (B ++ [.front 0 0, .front x y])) := fun a x y C => by
    have := HQ_truncK (L := L) (a := a) (d := d) (A := A) (B := B) (C := .front 0 0 :: .front x y :: C) (k := 2) (by simpa using hKB x y) (by simp)
    simpa using this
  have htr0 : ∀ a d x y, trunc (HN A B + 2) (HQ A L a d (B ++ [.front 0 0, .front x y])) = some (HQ A L a d (B ++ [.front 0 0, .front x y])) := fun a d x y => by
    have := HQ_truncK (L := L) (a := a) (d := d) (A := A) (B := B) (C := [.front 0 0, .front x y]) (k := 2) (by simpa using hKB x y) (by simp)
    simpa using this
  obtain ⟨n, rfl⟩ : ∃ k, n = k + 1 := ⟨n - 1, by omega⟩
  have hfst : m140_l0 KK (HN A B + 2) ([.ptr A.length 0, .func 141 [] [.ptr i 0], .slice [] (.own (HN A B)), .slice (l.map XP.cells) (.own (HN A B + 1))], HQ A L a d (B ++ [.front 0 0, .front l.length (fsz l.length 6)])) =
      match one a d with
      | .bad e p a1 d1 => (trunc (HN A B + 2) (HQ A L a1 d1 (B ++ [.front 0 0, .front l.length (fsz l.length 6)]))).map fun h => (.pan (wrongV e p), [.ptr A.length 0, .func 141 [] [.ptr i 0], .slice [] (.own (HN A B)), .slice (l.map XP.cells) (.own (HN A B + 1))], h)
      | .ok x a1 d1 => if isS (tk L a1) [44] = true then some (.normal, [.ptr A.length 0, .func 141 [] [.ptr i 0], .slice [] (.own (HN A B)), .slice ((l ++ [x]).map XP.cells) (.own (HN A B + 1))], HQ A L (a1 + 1) d (B ++ [.front 0 0, .front (l ++ [x]).length 6]))
        else some (.ret, [.ptr A.length 0, .func 141 [] [.ptr i 0], .slice ((l ++ [x]).map XP.cells) (.own (HN A B + 1)), .slice ((l ++ [x]).map XP.cells) (.own (HN A B + 1))], HQ A L a1 d (B ++ [.front 0 0, .front (l ++ [x]).length 6])) := by
    have e1 := hone [.front 0 0, .front l.length (fsz l.length 6)] a ha (hKB _ _)
    have ce : callE ann KK 141 (argsFor ann 141 [.ptr i 0]) (HQ A L a d (B ++ [.front 0 0, .front l.length (fsz l.length 6)])) = some ((one a d).res (fun x => .agg (XP.cells x)) A L (B ++ [.front 0 0, .front l.length (fsz l.length 6)])) := e1
    simp -implicitDefEqProofs only [m140_l0, List.getD_cons_zero, List.getD_cons_succ, acallee, Option.bind_some, List.nil_append, List.append_nil, ce]
    cases h1 : one a d with
    | bad e p a1 d1 =>
      simp -implicitDefEqProofs [htr0, endR, hsf, hsp]
    | ok x a1 d1 =>
      obtain ⟨g1, g2, g3⟩ := hg a d _ _ _ h1 ha
      have g3 : d = d1 := g3.symm
      subst g3
      have b1 := abuildSlice1 (zero := [.int .i64 0, .str [], .int .i64 0, .int .i64 0, .int .i64 0, .bool false]) (h := HQ A L a1 d (B ++ [.front 0 0, .front l.length (fsz l.length 6)])) (XP.row.len x) rfl (XP.row.pure x) (XP.row.ok x)
      have b2 := HQ_app1 (A := A) (B := B) (L := L) (a := a1) (d := d) (C := [.front 0 0, .front l.length (fsz l.length 6), .front 1 6]) (k := 1) (rows := l.map XP.cells) (new := [XP.cells x]) (sz := 6) (by_ := 56) (sz' := fsz l.length 6) (t := .own (HN A B + 2)) (by simp) (by rw [List.length_map]; exact fsz_or _ _) (by simpa using XP.row.len x) (by simp) (by simp; omega) (by simp; omega)
      simp only [List.length_map, List.length_singleton, List.set_cons_succ, List.set_cons_zero] at b2
      simp -implicitDefEqProofs [b1, b2]
      rw [h143 [44] _ _ _ _ g2 trivial (hB.app (by simp))]
      simp -implicitDefEqProofs only [pMaybe]
      cases h2 : isS (tk L a1) [44] <;> simp -implicitDefEqProofs [htr, endR, hsf, hsp]
  rw [hfst]
  simp only [pMore_eq]
  cases h1 : one a d with
  | bad e p a1 d1 =>
    right
    exact ⟨_, (by simp only [htr0, Option.map_some]; rfl), by simp, _, _, rfl⟩
  | ok x a1 d1 =>
    obtain ⟨g1, g2, g3⟩ := hg a d _ _ _ h1 ha
    have g3 : d = d1 := g3.symm
    subst g3
    cases h2 : isS (tk L a1) [44] with
    | true =>
      left
      refine ⟨(l ++ [x], a1 + 1, n), ?_, ⟨isS_lt hK g2 h2, by simp; omega, by simp; omega⟩, by simp, ?_⟩
      · simp [h2, fsz_succ]
      · intro r hr
        simpa [h2] using hr
    | false =>
      right
      exact ⟨_, by simp only [h2]; rfl, by simp, by simp [h2]⟩

theorem d140 {one : PM XP} (w : List UInt8) (hg : PGood L 1 (fun d => d) one) {A B : List ABlk} {i a d : Nat} (ha : a < L.length) (hB : KB A B) (hi : Has A B i)
    (hone : ∀ (C : List ABlk) (a : Nat), a < L.length → KB A (B ++ C) → KK 141 [.ptr i 0] (HQ A L a d (B ++ C)) = some ((one a d).res (fun x => .agg (XP.cells x)) A L (B ++ C))) :
    KK 140 [.ptr A.length 0, .str w, .func 141 [] [.ptr i 0]] (HQ A L a d B) = some ((pList L w one a d).res (fun l => .slice (l.map XP.cells) .no) A L B) := by
  refine evW_by (m140_eq _ _ _ _ _) ?_
  have h178 := d178 (L := L)
  unfold Does at h178
  unfold pList
  cases hs : isS (tk L a) w
  · obtain ⟨r, h1, h2⟩ := d140_loop hL hK hg hB hi hone 131073 [] a ha (by omega) (Nat.zero_le _)
    simp only [List.map_nil, List.length_nil, fsz_zero] at h1
    simp -implicitDefEqProofs [m140, ha, hB, h178, hs, h1]
    cases h3 : pMore L one 131073 [] a d with
    | bad e p a' d' =>
      rw [h3] at h2
      obtain ⟨vs, C, rfl⟩ := h2
      simp -implicitDefEqProofs [hB]
    | ok l' a' d' =>
      rw [h3] at h2
      subst h2
      simp -implicitDefEqProofs [hB]
  · simp -implicitDefEqProofs [m140, ha, hB, h178, hs]

/-- A list of XE, round by round. -/
theorem d259_loop {one : PM XE} (hg : PGood L 1 (fun d => d) one) {A B : List ABlk} {i d : Nat} (hB : KB A B) (hi : Has A B i)
    (hone : ∀ (C : List ABlk) (a : Nat), a < L.length → KB A (B ++ C) → KK 260 [.ptr i 0] (HQ A L a d (B ++ C)) = some ((one a d).res (fun x => .agg (XE.cells x)) A L (B ++ C))) (n : Nat) (l : List XE) (a : Nat) (ha : a < L.length) (hn : L.length < a + n) (hl : l.length ≤ a) :
    ∃ r, lpW (m259_l0 KK (HN A B + 2)) ([.ptr A.length 0, .func 260 [] [.ptr i 0], .slice [] (.own (HN A B)), .slice (l.map XE.cells) (.own (HN A B + 1))], HQ A L a d (B ++ [.front 0 0, .front l.length (fsz l.length 5)])) = some r ∧
      match pMore L one n l a d with
      | .ok l' a' d' => r = (.ret, [.ptr A.length 0, .func 260 [] [.ptr i 0], .slice (l'.map XE.cells) (.own (HN A B + 1)), .slice (l'.map XE.cells) (.own (HN A B + 1))], HQ A L a' d' (B ++ [.front 0 0, .front l'.length 5]))
      | .bad e p a' d' => ∃ vs C, r = (.pan (wrongV e p), vs, HQ A L a' d' (B ++ C)) := by
  have h143 := d143 hL
  unfold Does at h143
  refine lpW_post (σ := List XE × Nat × Nat) (fun s => ([.ptr A.length 0, .func 260 [] [.ptr i 0], .slice [] (.own (HN A B)), .slice (s.1.map XE.cells) (.own (HN A B + 1))], HQ A L s.2.1 d (B ++ [.front 0 0, .front s.1.length (fsz s.1.length 5)])))
    (fun s => s.2.1 < L.length ∧ L.length < s.2.1 + s.2.2 ∧ s.1.length ≤ s.2.1) (fun s => s.2.2)
    (fun s r => match pMore L one s.2.2 s.1 s.2.1 d with
      | .ok l' a' d' => r = (.ret, [.ptr A.length 0, .func 260 [] [.ptr i 0], .slice (l'.map XE.cells) (.own (HN A B + 1)), .slice (l'.map XE.cells) (.own (HN A B + 1))], HQ A L a' d' (B ++ [.front 0 0, .front l'.length 5]))
      | .bad e p a' d' => ∃ vs C, r = (.pan (wrongV e p), vs, HQ A L a' d' (B ++ C))) ?_ (l, a, n) ⟨ha, hn, hl⟩
  rintro ⟨l, a, n⟩ ⟨ha, hn, hl⟩
  simp only at ha hn hl
  have hi' : i < HN A B + 2 := hi.lt
  have hsf : ∀ h, AVal.san (HN A B + 2) h (.func 260 [] [.ptr i 0]) = .func 260 [] [.ptr i 0] := fun h => san_func1 hi'
  have hsp : ∀ h, AVal.san (HN A B + 2) h (.ptr A.length 0) = .ptr A.length 0 := fun h => san_ptr_lt A_lt
  have hKB : ∀ x y, KB A (B ++ [.front 0 0, .front x y]) := fun x y => hB.app (by simp)
  have htr : ∀ a x y C, trunc (HN A B + 2) (HQ A L a d (B ++ (.front 0 0 :: .front x y :: C))) = some (HQ A L a d (B ++ [.front 0 0, .front x y])) := fun a x y C => by
    have := HQ_truncK (L := L) (a := a) (d := d) (A := A) (B := B) (C := .front 0 0 :: .front x y :: C) (k := 2) (by simpa using hKB x y) (by simp)
    simpa using this
  have htr0 : ∀ a d x y, trunc (HN A B + 2) (HQ A L a d (B ++ [.front 0 0, .front x y])) = some (HQ A L a d (B ++ [.front 0 0, .front x y])) := fun a d x y => by
    have := HQ_truncK (L := L) (a := a) (d := d) (A := A) (B := B) (C := [.front 0 0, .front x y]) (k := 2) (by simpa using hKB x y) (by simp)
    simpa using this
  obtain ⟨n, rfl⟩ : ∃ k, n = k + 1 := ⟨n - 1, by omega⟩
  have hfst : m259_l0 KK (HN A B + 2) ([.ptr A.length 0, .func 260 [] [.ptr i 0], .slice [] (.own (HN A B)), .slice (l.map XE.cells) (.own (HN A B + 1))], HQ A L a d (B ++ [.front 0 0, .front l.length (fsz l.length 5)])) =
      match one a d with
      | .bad e p a1 d1 => (trunc (HN A B + 2) (HQ A L a1 d1 (B ++ [.front 0 0, .front l.length (fsz l.length 5)]))).map fun h => (.pan (wrongV e p), [.ptr A.length 0, .func 260 [] [.ptr i 0], .slice [] (.own (HN A B)), .slice (l.map XE.cells) (.own (HN A B + 1))], h)
      | .ok x a1 d1 => if isS (tk L a1) [44] = true then some (.normal, [.ptr A.length 0, .func 260 [] [.ptr i 0], .slice [] (.own (HN A B)), .slice ((l ++ [x]).map XE.cells) (.own (HN A B + 1))], HQ A L (a1 + 1) d (B ++ [.front 0 0, .front (l ++ [x]).length 5]))
        else some (.ret, [.ptr A.length 0, .func 260 [] [.ptr i 0], .slice ((l ++ [x]).map XE.cells) (.own (HN A B + 1)), .slice ((l ++ [x]).map XE.cells) (.own (HN A B + 1))], HQ A L a1 d (B ++ [.front 0 0, .front (l ++ [x]).length 5])) := by
    have e1 := hone [.front 0 0, .front l.length (fsz l.length 5)] a ha (hKB _ _)
    have ce : callE ann KK 260 (argsFor ann 260 [.ptr i 0]) (HQ A L a d (B ++ [.front 0 0, .front l.length (fsz l.length 5)])) = some ((one a d).res (fun x => .agg (XE.cells x)) A L (B ++ [.front 0 0, .front l.length (fsz l.length 5)])) := e1
    simp -implicitDefEqProofs only [m259_l0, List.getD_cons_zero, List.getD_cons_succ, acallee, Option.bind_some, List.nil_append, List.append_nil, ce]
    cases h1 : one a d with
    | bad e p a1 d1 =>
      simp -implicitDefEqProofs [htr0, endR, hsf, hsp]
    | ok x a1 d1 =>
      obtain ⟨g1, g2, g3⟩ := hg a d _ _ _ h1 ha
      have g3 : d = d1 := g3.symm
      subst g3
      have b1 := abuildSlice1 (zero := [.int .i64 0, .int .i64 0, .int .i64 0, .str [], .slice [] .nil]) (h := HQ A L a1 d (B ++ [.front 0 0, .front l.length (fsz l.length 5)])) (XE.row.len x) rfl (XE.row.pure x) (XE.row.ok x)
      have b2 := HQ_app1 (A := A) (B := B) (L := L) (a := a1) (d := d) (C := [.front 0 0, .front l.length (fsz l.length 5), .front 1 5]) (k := 1) (rows := l.map XE.cells) (new := [XE.cells x]) (sz := 5) (by_ := 64) (sz' := fsz l.length 5) (t := .own (HN A B + 2)) (by simp) (by rw [List.length_map]; exact fsz_or _ _) (by simpa using XE.row.len x) (by simp) (by simp; omega) (by simp; omega)
      simp only [List.length_map, List.length_singleton, List.set_cons_succ, List.set_cons_zero] at b2
      simp -implicitDefEqProofs [b1, b2]
      rw [h143 [44] _ _ _ _ g2 trivial (hB.app (by simp))]
      simp -implicitDefEqProofs only [pMaybe]
      cases h2 : isS (tk L a1) [44] <;> simp -implicitDefEqProofs [htr, endR, hsf, hsp]
  rw [hfst]
  simp only [pMore_eq]
  cases h1 : one a d with
  | bad e p a1 d1 =>
    right
    exact ⟨_, (by simp only [htr0, Option.map_some]; rfl), by simp, _, _, rfl⟩
  | ok x a1 d1 =>
    obtain ⟨g1, g2, g3⟩ := hg a d _ _ _ h1 ha
    have g3 : d = d1 := g3.symm
    subst g3
    cases h2 : isS (tk L a1) [44] with
    | true =>
      left
      refine ⟨(l ++ [x], a1 + 1, n), ?_, ⟨isS_lt hK g2 h2, by simp; omega, by simp; omega⟩, by simp, ?_⟩
      · simp [h2, fsz_succ]
      · intro r hr
        simpa [h2] using hr
    | false =>
      right
      exact ⟨_, by simp only [h2]; rfl, by simp, by simp [h2]⟩

theorem d259 {one : PM XE} (w : List UInt8) (hg : PGood L 1 (fun d => d) one) {A B : List ABlk} {i a d : Nat} (ha : a < L.length) (hB : KB A B) (hi : Has A B i)
    (hone : ∀ (C : List ABlk) (a : Nat), a < L.length → KB A (B ++ C) → KK 260 [.ptr i 0] (HQ A L a d (B ++ C)) = some ((one a d).res (fun x => .agg (XE.cells x)) A L (B ++ C))) :
    KK 259 [.ptr A.length 0, .str w, .func 260 [] [.ptr i 0]] (HQ A L a d B) = some ((pList L w one a d).res (fun l => .slice (l.map XE.cells) .no) A L B) := by
  refine evW_by (m259_eq _ _ _ _ _) ?_
  have h178 := d178 (L := L)
  unfold Does at h178
  unfold pList
  cases hs : isS (tk L a) w
  · obtain ⟨r, h1, h2⟩ := d259_loop hL hK hg hB hi hone 131073 [] a ha (by omega) (Nat.zero_le _)
    simp only [List.map_nil, List.length_nil, fsz_zero] at h1
    simp -implicitDefEqProofs [m259, ha, hB, h178, hs, h1]
    cases h3 : pMore L one 131073 [] a d with
    | bad e p a' d' =>
      rw [h3] at h2
      obtain ⟨vs, C, rfl⟩ := h2
      simp -implicitDefEqProofs [hB]
    | ok l' a' d' =>
      rw [h3] at h2
      subst h2
      simp -implicitDefEqProofs [hB]
  · simp -implicitDefEqProofs [m259, ha, hB, h178, hs]
end
end Go.Proofs.YtkeoalhglkfbkaaDoor

/-
  Expressions: signs, an index, a call. By the evaluator. No conditions.
-/
namespace Go.Proofs.YtkeoalhglkfbkaaDoor
open Go Hk

section
variable {x : XE} {n m : Nat} {h : Heap}
@[simp] theorem xe_len : x.cells.length = 5 := XE.row.len x
@[simp] theorem xe_take : x.cells.take 5 = x.cells := List.take_of_length_le (by simp)
@[simp] theorem xe_take' {l : List AVal} : (x.cells ++ l).take 5 = x.cells := by rw [List.take_append_of_le_length (by simp)]; simp
theorem xe_ok : ∀ c ∈ x.cells, c.cellOk = true := by simpa using XE.row.ok x
@[simp] theorem xe_ok2 : (∀ c, c ∈ x.cells → c.cellOk = true) = True := eq_true xe_ok
@[simp] theorem xe_nonil {os : List AVal} : keepTok h os x.cells = x.cells := keepTok_none (by cases x; simp [XE.cells, AVal.isNil])
@[simp] theorem xe_keep : x.cells.map (AVal.untok1 ∘ fun c => AVal.san1 m h c) = x.cells := by cases x; simp [XE.cells]
@[simp] theorem xe_untok : (AVal.agg x.cells).untok = .agg x.cells := by cases x; simp [XE.cells]
@[simp] theorem xe_CBn : CBn n x.cells := by cases x; simp [XE.cells]
@[simp] theorem xe_build : abuildSlice 1 5 [.int .i64 0, .int .i64 0, .int .i64 0, .str [], .slice [] .nil] [(0, .agg x.cells)] h = some (.slice [x.cells] (.own h.length), h ++ [.front 1 5]) :=
  abuildSlice1 (XE.row.len x) rfl (XE.row.pure x) (XE.row.ok x)
end
def xEnc (x : XE) : AVal := .agg x.cells
def lEnc (l : List XE) : AVal := .slice (l.map XE.cells) .no
attribute [simp] xEnc lEnc

def lvEnc : Option (Nat × Nat) → AVal
  | some (n, k) => .tuple [.int .i64 (n : Int), .int .i64 (k : Int)]
  | none => .tuple [.int .i64 (-1), .int .i64 0]
set_option maxHeartbeats 1000000 in
theorem c258 (w : List UInt8) (h : Heap) : KK 258 [.str w] h = some (.ret (lvEnc (levelOf w)), h) := by
  refine callP_pure rfl rfl (evW_by (m258_eq _ _ _) ?_)
  by_cases h0 : w = [61, 61]
  · subst h0; simp -implicitDefEqProofs [m258, levelOf, lvEnc, finR_zero]
  by_cases h1 : w = [33, 61]
  · subst h1; simp -implicitDefEqProofs [m258, levelOf, lvEnc, finR_zero]
  by_cases h2 : w = [60]
  · subst h2; simp -implicitDefEqProofs [m258, levelOf, lvEnc, finR_zero]
  by_cases h3 : w = [60, 61]
  · subst h3; simp -implicitDefEqProofs [m258, levelOf, lvEnc, finR_zero]
  by_cases h4 : w = [62]
  · subst h4; simp -implicitDefEqProofs [m258, levelOf, lvEnc, finR_zero]
  by_cases h5 : w = [62, 61]
  · subst h5; simp -implicitDefEqProofs [m258, levelOf, lvEnc, finR_zero]
  by_cases h6 : w = [124]
  · subst h6; simp -implicitDefEqProofs [m258, levelOf, lvEnc, finR_zero]
  by_cases h7 : w = [94]
  · subst h7; simp -implicitDefEqProofs [m258, levelOf, lvEnc, finR_zero]
  by_cases h8 : w = [38]
  · subst h8; simp -implicitDefEqProofs [m258, levelOf, lvEnc, finR_zero]
  by_cases h9 : w = [60, 60]
  · subst h9; simp -implicitDefEqProofs [m258, levelOf, lvEnc, finR_zero]
  by_cases h10 : w = [62, 62]
  · subst h10; simp -implicitDefEqProofs [m258, levelOf, lvEnc, finR_zero]
  by_cases h11 : w = [43]
  · subst h11; simp -implicitDefEqProofs [m258, levelOf, lvEnc, finR_zero]
  by_cases h12 : w = [45]
  · subst h12; simp -implicitDefEqProofs [m258, levelOf, lvEnc, finR_zero]
  by_cases h13 : w = [42]
  · subst h13; simp -implicitDefEqProofs [m258, levelOf, lvEnc, finR_zero]
  simp -implicitDefEqProofs [m258, levelOf, lvEnc, finR_zero, h0, h1, h2, h3, h4, h5, h6, h7, h8, h9, h10, h11, h12, h13]

def sgV (t : Token) (k : Nat) : Int × Bool := if t.kind = 4 then (match levelOf t.text with | some (n, kind) => (kind, decide (n = k)) | none => (0, false)) else (0, false)
theorem sgV_none {t : Token} {k : Nat} (h : signOf t k = none) : (sgV t k).2 = false := by
  unfold signOf at h
  unfold sgV
  split at h
  · rename_i hk
    simp only [hk, if_true]
    split at h
    · rename_i n kind hl
      split at h
      · cases h
      · rename_i hn; simp [hl, hn]
    · rename_i hl; simp [hl]
  · rename_i hk; simp [hk]
theorem sgV_some {t : Token} {k kind : Nat} (h : signOf t k = some kind) : sgV t k = ((kind : Int), true) := by
  unfold signOf at h
  unfold sgV
  split at h
  · rename_i hk
    simp only [hk, if_true]
    split at h
    · rename_i n kd hl
      split at h
      · rename_i hn; cases h; simp [hl, hn]
      · cases h
    · cases h
  · cases h
section
variable {L : List Token} (hL : L.length ≤ 131072) (hK : TokOk L)

def pSgn (L : List Token) (k : Nat) : PM (Int × Bool) := fun a d => .ok (sgV (tk L a) k) a d
def sgEnc (x : Int × Bool) : AVal := .tuple [.int .i64 x.1, .bool x.2]
attribute [simp] pSgn sgEnc
theorem d249 (k : Nat) : Does L (fun _ => True) 249 [.int .i64 (k : Int)] sgEnc (pSgn L k) := by
  intro A B a d ha hd hB
  refine evW_by (m249_eq _ _ _ _) ?_
  have h76 := d76 (L := L)
  unfold Does at h76
  have h258 := c258
  simp -implicitDefEqProofs [m249, ha, hB, h76]
  by_cases hk : (tk L a).kind = 4
  · simp -implicitDefEqProofs [hk, hB, h258, sgV]
    cases hl : levelOf (tk L a).text with
    | none =>
      have : ¬ (-1 : Int) = k := by omega
      simp -implicitDefEqProofs [lvEnc, hB, this]
    | some x =>
      obtain ⟨n, kind⟩ := x
      simp -implicitDefEqProofs [lvEnc, hB]
      omega
  · have hk' : ¬ ((tk L a).kind : Int) = 4 := by omega
    simp -implicitDefEqProofs [hk', hk, hB, sgV]

/-- So many nests are left, and one. -/
def dk (n d : Nat) : Prop := d + n = 65 ∧ d ≤ 64
theorem dk.up {n d : Nat} (h : dk (n + 1) d) (hd : ¬ d = 64) : dk n (d + 1) := ⟨by have := h.1; omega, by have := h.2; omega⟩

include hL hK
theorem c141 {A B : List ABlk} {i a d : Nat} (hi : Has A B i) (ha : a < L.length) (hB : KB A B) :
    KK 141 [.ptr i 0] (HQ A L a d B) = some ((pParam L a d).res (fun x => .agg x.cells) A L B) := by
  refine evW_by (m141_eq _ _ _) ?_
  have h142 := d142 hL hK
  unfold Does at h142
  have hg : ∀ C a d, getBlk (HQ A L a d (B ++ C)) i = some [.ptr A.length 0] := fun C a d => hi.app.get
  simp -implicitDefEqProofs [m141, ha, hB, hg, h142]
  cases h1 : pParam L a d with
  | bad e p a1 d1 => simp -implicitDefEqProofs [hB]
  | ok x a1 d1 => simp -implicitDefEqProofs [hB, XP.cells]

section
variable {n : Nat} {ex : PM XE} (he : Does L (dk n) 230 [] xEnc ex) (hg : PGood L 1 (fun d => d) ex)
include he

omit hL hK in
theorem c260 {A B : List ABlk} {i a d : Nat} (hi : Has A B i) (ha : a < L.length) (hd : dk n d) (hB : KB A B) :
    KK 260 [.ptr i 0] (HQ A L a d B) = some ((ex a d).res xEnc A L B) := by
  refine evW_by (m260_eq _ _ _) ?_
  unfold Does at he
  have hg : ∀ C a d, getBlk (HQ A L a d (B ++ C)) i = some [.ptr A.length 0] := fun C a d => hi.app.get
  simp -implicitDefEqProofs [m260, ha, hB, hg, he, hd]
  cases h1 : ex a d with
  | bad e p a1 d1 => simp -implicitDefEqProofs [hB]
  | ok x a1 d1 => simp -implicitDefEqProofs [hB]

include hg
theorem c251 {A B : List ABlk} {a d : Nat} (ha : a < L.length) (hd : dk (n + 1) d) (hB : KB A B) : match pIndex L ex a d with
    | .bad e p a' d' => KK 251 [.ptr A.length 0] (HQ A L a d B) = some (.pan (wrongV e p), HQ A L a' d' B)
    | .ok l a' d' => ∃ x, l = [x] ∧ KK 251 [.ptr A.length 0] (HQ A L a d B) = some (.ret (.slice [x.cells] (.own (HN A B + 3))), HQ A L a' d' (B ++ [.front 0 0, .cells x.cells, .front 0 0, .front 1 5])) := by
  have h181 := d181 hL
  have h183 := d183 hL
  unfold Does at h181 h183 he
  have hd64 := hd.2
  have ev : ∀ r, m251 KK (.ptr A.length 0) (HQ A L a d B) = some r → KK 251 [.ptr A.length 0] (HQ A L a d B) = some r := fun r hr => evW_by (m251_eq _ _ _) hr
  unfold pIndex
  simp only [pm_bind, PM.bind, pOpen]
  cases hs : isS (tk L a) [91]
  · simp only [Bool.false_eq_true, if_false]
    refine ev _ ?_
    simp -implicitDefEqProofs [m251, ha, hB, h181, hd64, hs]
  · have ha1 := isS_lt hK ha hs
    by_cases h64 : d = 64
    · simp only [if_true, h64]
      rw [h64] at ev hd64
      refine ev _ ?_
      simp -implicitDefEqProofs [m251, ha, hB, h181, hs]
    · have hd1 := hd.up h64
      simp only [if_true, h64, if_false]
      cases h1 : ex (a + 1) (d + 1) with
      | bad e p a2 d2 =>
        refine ev _ ?_
        simp -implicitDefEqProofs [m251, ha, hB, h181, hd64, hs, h64, ha1, hd1, he, h1]
      | ok x a2 d2 =>
        obtain ⟨g1, g2, g3⟩ := hg _ _ _ _ _ h1 ha1
        have g3 : d2 = d + 1 := g3
        subst g3
        have h65 : d ≤ 64 := by omega
        simp only [pShut]
        cases h2 : isS (tk L a2) [93]
        · simp only [Bool.false_eq_true, if_false]
          refine ev _ ?_
          simp -implicitDefEqProofs [m251, ha, hB, h181, hd64, hs, h64, ha1, hd1, he, h1, g2, h183, h65, h2]
        · simp only [if_true, pm_pure]
          refine ⟨x, rfl, ev _ ?_⟩
          simp -implicitDefEqProofs [m251, ha, hB, h181, hd64, hs, h64, ha1, hd1, he, h1, g2, h183, h65, h2]

theorem d250 (t : Token) : Does L (dk (n + 1)) 250 [.agg t.cells] xEnc (pCall L ex t) := by
  intro A B a d ha hd hB
  refine evW_by (m250_eq _ _ _ _) ?_
  have h181 := d181 hL
  have h183 := d183 hL
  have h260 := fun A B i a d hi ha hd hB => c260 (A := A) (B := B) (i := i) (a := a) (d := d) he hi ha hd hB
  unfold Does at h181 h183
  have hd64 := hd.2
  have hlt : A.length < HN A B := A_lt0
  simp -implicitDefEqProofs [m250, ha, hB, h181, hd64, pCall, hlt, A_lt]
  cases hs : isS (tk L a) [40]
  · simp -implicitDefEqProofs [hB]
  · have ha1 := isS_lt hK ha hs
    by_cases h64 : d = 64
    · simp -implicitDefEqProofs [hB, h64]
    · have hd1 := hd.up h64
      have hB' : KB A (B ++ [.cells [.ptr A.length 0], .cells t.cells, .cells [.int .i64 0, .int .i64 0, .int .i64 0, .str [], .slice [] (.own (HN A B + 3))], .front 0 0]) := hB.app (by simp [A_lt])
      have h259 := d259 hL hK (one := ex) [41] hg ha1 hB' Has.new (fun C a ha hB => c260 he Has.new.app ha hd1 hB)
      simp only [Token.cells] at h259
      simp -implicitDefEqProofs [hB, h64, ha1, h259, A_lt, hlt]
      cases h1 : pList L [41] ex (a + 1) (d + 1) with
      | bad e p a2 d2 => simp -implicitDefEqProofs [hB]
      | ok l a2 d2 =>
        obtain ⟨g1, g2, g3⟩ := g_list hK hg _ _ _ _ _ h1 ha1
        have g3 : d2 = d + 1 := g3
        subst g3
        have h65 : d ≤ 64 := by omega
        simp -implicitDefEqProofs [hB, g2, h183, h65, A_lt, hlt]
        cases h2 : isS (tk L a2) [41] <;> simp -implicitDefEqProofs [hB, XE.cells, XE.rows_eq]
end
end
end Go.Proofs.YtkeoalhglkfbkaaDoor


/-
  What a word of the language is handed, and the least parts of expressions. By the evaluator. No conditions.
-/
namespace Go.Proofs.YtkeoalhglkfbkaaDoor
open Go Hk

def pArg1 (L : List Token) (ex : PM XE) (n : Nat) (l : List XE) : PM (List XE) := fun a d => match ex a d with
  | .bad e p a1 d1 => .bad e p a1 d1
  | .ok x a1 d1 => pArgs L ex n false (l ++ [x]) a1 d1
theorem pArgs_eq {L : List Token} {ex : PM XE} {n : Nat} {first : Bool} {l : List XE} {a d : Nat} : pArgs L ex (n + 1) first l a d =
    if first = true then pArg1 L ex n l a d else if isS (tk L a) [44] = true then pArg1 L ex n l (a + 1) d else .bad 10 (tk L a).pos a d := by
  unfold pArg1
  rw [pArgs]
  cases first
  · simp only [Bool.not_false, if_true, pm_bind, PM.bind, pTake, Bool.false_eq_true, if_false]
    cases h : isS (tk L a) [44]
    · simp
    · simp only [if_true]
      cases ex (a + 1) d <;> rfl
  · simp only [Bool.not_true, Bool.false_eq_true, if_false, if_true, pm_bind, PM.bind]
    cases ex a d <;> rfl

section
variable {L : List Token} (hL : L.length ≤ 131072) (hK : TokOk L)
variable {n : Nat} {ex : PM XE} (he : Does L (dk n) 230 [] xEnc ex) (hg : PGood L 1 (fun d => d) ex)
include hL hK he hg

/-- What 'made' has in its frame. -/
def mC (A B : List ABlk) (kind pos : Nat) (l : List XE) : List ABlk :=
  [.cells [.int .i64 0, .int .i64 0, .int .i64 0, .str [], .slice [] (.own (HN A B + 1))], .front 0 0,
   .cells [.int .i64 (kind : Int), .int .i64 (pos : Int), .int .i64 0, .str [], .slice (l.map XE.cells) (.own (HN A B + 3))], .front l.length (fsz l.length 5)]

theorem d263_loop {A B : List ABlk} {kind pos many d : Nat} {num : Bool} (hB : KB A B) (hd : dk n d) (hm : many ≤ 8) (rem : Nat) (l : List XE) (a : Nat) (ha : a < L.length) (hl : l.length + rem = many) :
    ∃ r, lpW (m263_l0 KK (HN A B + 4)) ([.ptr A.length 0, .bool num, .ptr (HN A B) 0, .ptr (HN A B + 2) 0, .int .i64 (many : Int), .int .i64 (l.length : Int)], HQ A L a d (B ++ mC A B kind pos l)) = some r ∧
      match pArgs L ex rem (decide (l.length = 0)) l a d with
      | .ok l' a' d' => r = (.exit 0, [.ptr A.length 0, .bool num, .ptr (HN A B) 0, .ptr (HN A B + 2) 0, .int .i64 (many : Int), .int .i64 (many : Int)], HQ A L a' d' (B ++ mC A B kind pos l'))
      | .bad e p a' d' => ∃ vs C, r = (.pan (wrongV e p), vs, HQ A L a' d' (B ++ C)) := by
  have h138 := d138 hL
  unfold Does at h138 he
  refine lpW_post (σ := List XE × Nat × Nat) (fun s => ([.ptr A.length 0, .bool num, .ptr (HN A B) 0, .ptr (HN A B + 2) 0, .int .i64 (many : Int), .int .i64 (s.1.length : Int)], HQ A L s.2.1 d (B ++ mC A B kind pos s.1)))
    (fun s => s.2.1 < L.length ∧ s.1.length + s.2.2 = many) (fun s => s.2.2)
    (fun s r => match pArgs L ex s.2.2 (decide (s.1.length = 0)) s.1 s.2.1 d with
      | .ok l' a' d' => r = (.exit 0, [.ptr A.length 0, .bool num, .ptr (HN A B) 0, .ptr (HN A B + 2) 0, .int .i64 (many : Int), .int .i64 (many : Int)], HQ A L a' d' (B ++ mC A B kind pos l'))
      | .bad e p a' d' => ∃ vs C, r = (.pan (wrongV e p), vs, HQ A L a' d' (B ++ C))) ?_ (l, a, rem) ⟨ha, hl⟩
  rintro ⟨l, a, rem⟩ ⟨ha, hl⟩
  simp only at ha hl
  have hsp : ∀ h, AVal.san (HN A B + 4) h (.ptr A.length 0) = .ptr A.length 0 := fun h => san_ptr_lt A_lt
  have hsp2 : ∀ h, AVal.san (HN A B + 4) h (.ptr (HN A B) 0) = .ptr (HN A B) 0 := fun h => san_ptr_lt (by omega)
  have hsp3 : ∀ h, AVal.san (HN A B + 4) h (.ptr (HN A B + 2) 0) = .ptr (HN A B + 2) 0 := fun h => san_ptr_lt (by omega)
  have hKB : ∀ l, KB A (B ++ mC A B kind pos l) := fun l => hB.app (by simp [mC])
  have htr : ∀ a d l C, trunc (HN A B + 4) (HQ A L a d (B ++ (mC A B kind pos l ++ C))) = some (HQ A L a d (B ++ mC A B kind pos l)) := fun a d l C => by
    have := HQ_truncK (L := L) (a := a) (d := d) (A := A) (B := B) (C := mC A B kind pos l ++ C) (k := 4) (by simpa [mC] using hKB l) (by simp [mC])
    simpa [mC] using this
  have htr0 : ∀ a d l, trunc (HN A B + 4) (HQ A L a d (B ++ mC A B kind pos l)) = some (HQ A L a d (B ++ mC A B kind pos l)) := fun a d l => by
    have := htr a d l []
    simpa using this
  cases rem with
  | zero =>
    right
    have : (l.length : Int) = many := by omega
    refine ⟨(.exit 0, [.ptr A.length 0, .bool num, .ptr (HN A B) 0, .ptr (HN A B + 2) 0, .int .i64 (many : Int), .int .i64 (many : Int)], HQ A L a d (B ++ mC A B kind pos l)), ?_, by simp, ?_⟩
    · simp -implicitDefEqProofs only [m263_l0, List.getD_cons_zero, List.getD_cons_succ, abin_lss, Option.bind_some, acond_bool, this, Int.lt_irrefl, decide_false, cond_false, endR, htr0, Option.map_some, List.map_cons, List.map_nil, hsp, hsp2, hsp3, san_int, san_bool, exsan_exit]
    · simp only [pArgs, pm_pure]
  | succ rem =>
    have hlt : (l.length : Int) < many := by omega
    have hfst0 : ∀ (hc : l = []), m263_l0 KK (HN A B + 4) ([.ptr A.length 0, .bool num, .ptr (HN A B) 0, .ptr (HN A B + 2) 0, .int .i64 (many : Int), .int .i64 (l.length : Int)], HQ A L a d (B ++ mC A B kind pos l)) =
        match ex a d with
        | .bad e p a1 d1 => some (.pan (wrongV e p), [.ptr A.length 0, .bool num, .ptr (HN A B) 0, .ptr (HN A B + 2) 0, .int .i64 (many : Int), .int .i64 (l.length : Int)], HQ A L a1 d1 (B ++ mC A B kind pos l))
        | .ok x a1 d1 => some (.normal, [.ptr A.length 0, .bool num, .ptr (HN A B) 0, .ptr (HN A B + 2) 0, .int .i64 (many : Int), .int .i64 ((l ++ [x]).length : Int)], HQ A L a1 d (B ++ mC A B kind pos (l ++ [x]))) := by
      intro hc
      have ha1 := ha
      have hc1 : ¬ 0 < l.length := by simp [hc]
      have htr1 := fun a d => htr0 a d l
      simp only [mC] at htr1
      simp -implicitDefEqProofs [m263_l0, mC, hlt, hB, ha, hc1, he, ha1, hd]
      cases h1 : ex a d with
      | bad e p a1 d1 => simp -implicitDefEqProofs [endR, htr1, hsp, hsp2, hsp3]
      | ok x a1 d1 =>
        obtain ⟨g1, g2, g3⟩ := hg _ _ _ _ _ h1 ha1
        have g3 : d = d1 := g3.symm
        subst g3
        have b2 := HQ_app1 (A := A) (B := B) (L := L) (a := a1) (d := d) (C := mC A B kind pos l ++ [.front 1 5]) (k := 3) (rows := l.map XE.cells) (new := [x.cells]) (sz := 5) (by_ := 64) (sz' := fsz l.length 5) (t := .own (HN A B + 4)) (by simp [mC]) (by rw [List.length_map]; exact fsz_or _ _) (by simp) (by simp) (by simp; omega) (by simp; omega)
        simp only [mC, List.length_map, List.length_singleton, List.cons_append, List.nil_append, List.set_cons_succ, List.set_cons_zero] at b2
        have htr2 := htr a1 d (l ++ [x]) [.front 1 5]
        simp only [mC, List.cons_append, List.nil_append, List.map_append, List.map_cons, List.map_nil, List.length_append, List.length_singleton, fsz_succ] at htr2
        have w1 := wrapS (a := l.length) (by omega)
        simp -implicitDefEqProofs [b2, endR, htr2, hsp, hsp2, hsp3, w1, fsz_succ]
    have hfst1 : ∀ (hc : l ≠ [] ∧ isS (tk L a) [44] = true), m263_l0 KK (HN A B + 4) ([.ptr A.length 0, .bool num, .ptr (HN A B) 0, .ptr (HN A B + 2) 0, .int .i64 (many : Int), .int .i64 (l.length : Int)], HQ A L a d (B ++ mC A B kind pos l)) =
        match ex (a + 1) d with
        | .bad e p a1 d1 => some (.pan (wrongV e p), [.ptr A.length 0, .bool num, .ptr (HN A B) 0, .ptr (HN A B + 2) 0, .int .i64 (many : Int), .int .i64 (l.length : Int)], HQ A L a1 d1 (B ++ mC A B kind pos l))
        | .ok x a1 d1 => some (.normal, [.ptr A.length 0, .bool num, .ptr (HN A B) 0, .ptr (HN A B + 2) 0, .int .i64 (many : Int), .int .i64 ((l ++ [x]).length : Int)], HQ A L a1 d (B ++ mC A B kind pos (l ++ [x]))) := by
      intro hc
      obtain ⟨hc, hs⟩ := hc
      have ha1 := isS_lt hK ha hs
      have hc1 : 0 < l.length := List.length_pos_iff.2 hc
      have htr1 := fun a d => htr0 a d l
      simp only [mC] at htr1
      simp -implicitDefEqProofs [m263_l0, mC, hlt, hB, ha, hc, hs, hc1, h138, he, ha1, hd]
      cases h1 : ex (a + 1) d with
      | bad e p a1 d1 => simp -implicitDefEqProofs [endR, htr1, hsp, hsp2, hsp3]
      | ok x a1 d1 =>
        obtain ⟨g1, g2, g3⟩ := hg _ _ _ _ _ h1 ha1
        have g3 : d = d1 := g3.symm
        subst g3
        have b2 := HQ_app1 (A := A) (B := B) (L := L) (a := a1) (d := d) (C := mC A B kind pos l ++ [.front 1 5]) (k := 3) (rows := l.map XE.cells) (new := [x.cells]) (sz := 5) (by_ := 64) (sz' := fsz l.length 5) (t := .own (HN A B + 4)) (by simp [mC]) (by rw [List.length_map]; exact fsz_or _ _) (by simp) (by simp) (by simp; omega) (by simp; omega)
        simp only [mC, List.length_map, List.length_singleton, List.cons_append, List.nil_append, List.set_cons_succ, List.set_cons_zero] at b2
        have htr2 := htr a1 d (l ++ [x]) [.front 1 5]
        simp only [mC, List.cons_append, List.nil_append, List.map_append, List.map_cons, List.map_nil, List.length_append, List.length_singleton, fsz_succ] at htr2
        have w1 := wrapS (a := l.length) (by omega)
        simp -implicitDefEqProofs [b2, endR, htr2, hsp, hsp2, hsp3, w1, fsz_succ]
    simp only [pArgs_eq, decide_eq_true_eq]
    by_cases hl0 : l = []
    · have hf := hfst0 hl0
      have : l.length = 0 := by simp [hl0]
      rw [hf]
      simp only [this, if_true, pArg1]
      cases h1 : ex a d with
      | bad e p a1 d1 => exact .inr ⟨_, rfl, by simp, _, _, rfl⟩
      | ok x a1 d1 =>
        obtain ⟨g1, g2, g3⟩ := hg _ _ _ _ _ h1 ha
        have g3 : d = d1 := g3.symm
        subst g3
        exact .inl ⟨(l ++ [x], a1, rem), rfl, ⟨g2, by simp; omega⟩, by simp, fun r hr => by simpa using hr⟩
    · have h0 : ¬ l.length = 0 := by simpa using hl0
      simp only [h0, if_false]
      cases hs : isS (tk L a) [44] with
      | false =>
        right
        have hc1 : 0 < l.length := by omega
        have htr1 := fun a d => htr0 a d l
        simp only [mC] at htr1
        refine ⟨(.pan (wrongV 10 (tk L a).pos), [.ptr A.length 0, .bool num, .ptr (HN A B) 0, .ptr (HN A B + 2) 0, .int .i64 (many : Int), .int .i64 (l.length : Int)], HQ A L a d (B ++ mC A B kind pos l)), ?_, by simp, ?_⟩
        · simp -implicitDefEqProofs [m263_l0, mC, hlt, hB, ha, h138, hs, hc1, endR, htr1, hsp, hsp2, hsp3]
        · simp only [Bool.false_eq_true, if_false]
          exact ⟨_, _, rfl⟩
      | true =>
        have hf := hfst1 ⟨hl0, hs⟩
        have ha1 := isS_lt hK ha hs
        rw [hf]
        simp only [if_true, pArg1]
        cases h1 : ex (a + 1) d with
        | bad e p a1 d1 => exact .inr ⟨_, rfl, by simp, _, _, rfl⟩
        | ok x a1 d1 =>
          obtain ⟨g1, g2, g3⟩ := hg _ _ _ _ _ h1 ha1
          have g3 : d = d1 := g3.symm
          subst g3
          exact .inl ⟨(l ++ [x], a1, rem), rfl, ⟨g2, by simp; omega⟩, by simp, fun r hr => by simpa using hr⟩

theorem c263 {A B : List ABlk} {a d kind many : Nat} {num : Bool} (ha : a < L.length) (ha1 : a + 1 < L.length) (hd : dk (n + 1) d) (hB : KB A B) (hm : many ≤ 8) :
    KK 263 [.ptr A.length 0, .int .i64 (kind : Int), .int .i64 (many : Int), .bool num] (HQ A L a d B) = some ((pMade L ex kind many num a d).res xEnc A L B) := by
  refine evW_by (m263_eq _ _ _ _ _ _) ?_
  have h76 := d76 (L := L)
  have h181 := d181 hL
  have h183 := d183 hL
  have h138 := d138 hL
  have h139 := d139 hL 2
  unfold Does at h76 h181 h183 h138 h139
  simp only [Int.cast_ofNat_Int] at h139
  have hd64 := hd.2
  have w1 := wrapS (a := a) (by omega)
  simp -implicitDefEqProofs [m263, ha, ha1, hB, h76, h181, hd64, w1, pMade]
  cases hs : isS (tk L (a + 1)) [40]
  · simp -implicitDefEqProofs [hB]
  · have ha2 := isS_lt hK ha1 hs
    by_cases h64 : d = 64
    · simp -implicitDefEqProofs [hB, h64]
    · have hd1 := hd.up h64
      obtain ⟨r, h1, h2⟩ := d263_loop hL hK he hg (kind := kind) (pos := (tk L a).pos) (num := num) hB hd1 hm many [] (a + 1 + 1) ha2 (by simp)
      simp only [List.map_nil, List.length_nil, fsz_zero, decide_true, mC, Int.cast_ofNat_Int] at h1 h2
      simp -implicitDefEqProofs [hB, h64, ha2, h1]
      cases h3 : pArgs L ex many true [] (a + 1 + 1) (d + 1) with
      | bad e p a3 d3 =>
        rw [h3] at h2
        obtain ⟨vs, C, rfl⟩ := h2
        simp -implicitDefEqProofs [hB]
      | ok l a3 d3 =>
        obtain ⟨g1, g2, g3⟩ := g_args hK hg _ _ _ _ _ _ _ _ h3 ha2
        have g3 : d3 = d + 1 := g3
        subst g3
        rw [h3] at h2
        subst h2
        have h65 : d ≤ 64 := by omega
        cases num with
        | false =>
          simp -implicitDefEqProofs [hB, g2, h183, h65, mC]
          cases h4 : isS (tk L a3) [41] <;> simp -implicitDefEqProofs [hB, XE.cells, XE.rows_eq]
        | true =>
          simp -implicitDefEqProofs [hB, g2, h138, mC]
          cases h4 : isS (tk L a3) [44]
          · simp -implicitDefEqProofs [hB]
          · have ha4 := isS_lt hK g2 h4
            simp -implicitDefEqProofs [hB, ha4, h139]
            by_cases h5 : (tk L (a3 + 1)).kind = 2
            · have ha5 := kind_lt (k := 2) hK ha4 (by decide) h5
              simp -implicitDefEqProofs [hB, h5, ha5, h183, h65]
              cases h6 : isS (tk L (a3 + 1 + 1)) [41] <;> simp -implicitDefEqProofs [hB, XE.cells, XE.rows_eq]
            · simp -implicitDefEqProofs [hB, h5]

theorem d262 : Does L (dk (n + 1)) 262 [] xEnc (pPrimary L ex) := by
  intro A B a d ha hd hB
  refine evW_by (m262_eq _ _ _) ?_
  have h76 := d76 (L := L)
  have h178 := d178 (L := L)
  have h181 := d181 hL
  have h183 := d183 hL
  have h139 := d139 hL 1
  have h250 := fun t => d250 hL hK he hg t
  have he' := he
  unfold Does at h76 h178 h181 h183 h139 h250 he'
  simp only [Int.cast_ofNat_Int] at h139
  have hd64 := hd.2
  have w1 := wrapS (a := a) (by omega)
  have h263 := fun B (ha1 : a + 1 < L.length) (hB : KB A B) kind many num hm => c263 hL hK he hg (A := A) (B := B) (kind := kind) (many := many) (num := num) ha ha1 hd hB hm
  simp -implicitDefEqProofs [m262, ha, hB, h76, pPrimary]
  by_cases hk : (tk L a).kind = 2
  · simp -implicitDefEqProofs [hk, ha, hB, w1, XE.cells, XE.rows]
  · have hk' : ¬ ((tk L a).kind : Int) = 2 := by omega
    simp -implicitDefEqProofs [hk, hk', ha, hB, h178]
    cases s0 : isS (tk L a) [40]
    · simp -implicitDefEqProofs [ha, hB, h178]
      cases s1 : isS (tk L a) [109, 117, 108, 104, 105]
      · simp -implicitDefEqProofs [ha, hB, h178]
        cases s2 : isS (tk L a) [99, 97, 114, 114, 121]
        · simp -implicitDefEqProofs [ha, hB, h178]
          cases s3 : isS (tk L a) [115, 101, 108, 101, 99, 116]
          · simp -implicitDefEqProofs [ha, hB, h178]
            cases s4 : isS (tk L a) [119, 111, 114, 100]
            · simp -implicitDefEqProofs [ha, hB, h178]
              cases s5 : isS (tk L a) [114, 111, 114]
              · simp -implicitDefEqProofs [ha, hB, h178, h139]
                by_cases hn : (tk L a).kind = 1
                · have ha1 := kind_lt (k := 1) hK ha (by decide) hn
                  simp -implicitDefEqProofs [hn, ha1, hB, h178]
                  cases q1 : isS (tk L (a + 1)) [40]
                  · simp -implicitDefEqProofs [ha1, hB, h178]
                    cases q2 : isS (tk L (a + 1)) [91]
                    · simp -implicitDefEqProofs [ha1, hB, XE.cells, XE.rows]
                    · have i1 := c251 hL hK he hg (A := A) (B := B ++ [.cells [.int .i64 0, .int .i64 0, .int .i64 0, .str [], .slice [] (.own (HN A B + 1))], .front 0 0, .gone]) ha1 hd (hB.app (by simp))
                      simp -implicitDefEqProofs [ha1, hB]
                      cases q3 : pIndex L ex (a + 1) d with
                      | bad e p a3 d3 =>
                        rw [q3] at i1
                        simp -implicitDefEqProofs [hB, i1]
                      | ok l a3 d3 =>
                        rw [q3] at i1
                        obtain ⟨x, rfl, i2⟩ := i1
                        simp -implicitDefEqProofs [hB, i2, XE.cells, XE.rows]
                  · have h250' := h250 (tk L a)
                    simp -implicitDefEqProofs [hn] at h250'
                    simp -implicitDefEqProofs [ha1, hB, h250', hd]
                    cases q3 : pCall L ex (tk L a) (a + 1) d with
                    | bad e p a3 d3 => simp -implicitDefEqProofs [hB]
                    | ok x a3 d3 => simp -implicitDefEqProofs [hB]
                · simp -implicitDefEqProofs [hn, hB]
              · have ha1 := isS_lt hK ha s5
                have h263' := fun B hB => h263 B ha1 hB 16 1 true (by decide)
                simp only [Int.cast_ofNat_Int] at h263'
                simp -implicitDefEqProofs [hB, h263']
                cases q3 : pMade L ex 16 1 true a d with
                | bad e p a3 d3 => simp -implicitDefEqProofs [hB]
                | ok x a3 d3 => simp -implicitDefEqProofs [hB]
            · have ha1 := isS_lt hK ha s4
              have h263' := fun B hB => h263 B ha1 hB 26 1 false (by decide)
              simp only [Int.cast_ofNat_Int] at h263'
              simp -implicitDefEqProofs [hB, h263']
              cases q3 : pMade L ex 26 1 false a d with
              | bad e p a3 d3 => simp -implicitDefEqProofs [hB]
              | ok x a3 d3 => simp -implicitDefEqProofs [hB]
          · have ha1 := isS_lt hK ha s3
            have h263' := fun B hB => h263 B ha1 hB 25 3 false (by decide)
            simp only [Int.cast_ofNat_Int] at h263'
            simp -implicitDefEqProofs [hB, h263']
            cases q3 : pMade L ex 25 3 false a d with
            | bad e p a3 d3 => simp -implicitDefEqProofs [hB]
            | ok x a3 d3 => simp -implicitDefEqProofs [hB]
        · have ha1 := isS_lt hK ha s2
          have h263' := fun B hB => h263 B ha1 hB 24 2 false (by decide)
          simp only [Int.cast_ofNat_Int] at h263'
          simp -implicitDefEqProofs [hB, h263']
          cases q3 : pMade L ex 24 2 false a d with
          | bad e p a3 d3 => simp -implicitDefEqProofs [hB]
          | ok x a3 d3 => simp -implicitDefEqProofs [hB]
      · have ha1 := isS_lt hK ha s1
        have h263' := fun B hB => h263 B ha1 hB 23 2 false (by decide)
        simp only [Int.cast_ofNat_Int] at h263'
        simp -implicitDefEqProofs [hB, h263']
        cases q3 : pMade L ex 23 2 false a d with
        | bad e p a3 d3 => simp -implicitDefEqProofs [hB]
        | ok x a3 d3 => simp -implicitDefEqProofs [hB]
    · have ha1 := isS_lt hK ha s0
      simp -implicitDefEqProofs [hB, ha, h181, hd64, s0]
      by_cases h64 : d = 64
      · simp -implicitDefEqProofs [hB, h64]
      · have hd1 := hd.up h64
        simp -implicitDefEqProofs [hB, h64, ha1, hd1, he']
        cases q1 : ex (a + 1) (d + 1) with
        | bad e p a2 d2 => simp -implicitDefEqProofs [hB]
        | ok x a2 d2 =>
          obtain ⟨g1, g2, g3⟩ := hg _ _ _ _ _ q1 ha1
          have g3 : d2 = d + 1 := g3
          subst g3
          have h65 : d ≤ 64 := by omega
          simp -implicitDefEqProofs [hB, g2, h183, h65]
          cases q2 : isS (tk L a2) [41] <;> simp -implicitDefEqProofs [hB]
end
end Go.Proofs.YtkeoalhglkfbkaaDoor

/-
  A sign ahead. By the evaluator. No conditions.
-/
namespace Go.Proofs.YtkeoalhglkfbkaaDoor
open Go Hk

section
variable {L : List Token} (hL : L.length ≤ 131072) (hK : TokOk L)
variable {n : Nat} {ex un : PM XE} (he : Does L (dk n) 230 [] xEnc ex) (hg : PGood L 1 (fun d => d) ex) (hu : Does L (dk n) 257 [] xEnc un) (hgu : PGood L 1 (fun d => d) un)
include hL hK he hg hu hgu

theorem d257 : Does L (dk (n + 1)) 257 [] xEnc (pUnary L ex un) := by
  intro A B a d ha hd hB
  refine evW_by (m257_eq _ _ _) ?_
  have h76 := d76 (L := L)
  have h178 := d178 (L := L)
  have h181 := d181 hL
  have h262 := d262 hL hK he hg
  have hu' := hu
  unfold Does at h76 h178 h181 h262 hu'
  have hd64 := hd.2
  simp -implicitDefEqProofs [m257, ha, hB, h76, h178, pUnary]
  have key : ∀ s : List UInt8, isS (tk L a) s = true → (tk L a).text = s := by
    intro s hs
    simp [isS] at hs
    exact hs.2
  cases s1 : isS (tk L a) [126]
  · simp -implicitDefEqProofs [ha, hB, h178]
    cases s2 : isS (tk L a) [45]
    · simp -implicitDefEqProofs [ha, hB, h178]
      cases s3 : isS (tk L a) [33]
      · simp -implicitDefEqProofs [ha, hB, h262, hd]
        cases q : pPrimary L ex a d with
        | bad e p a1 d1 => simp -implicitDefEqProofs [hB]
        | ok x a1 d1 => simp -implicitDefEqProofs [hB]
      · have ha1 := isS_lt hK ha s3
        have ht := key _ s3
        simp -implicitDefEqProofs [ha, hB, h181, hd64, pSign, ht, s3]
        by_cases h64 : d = 64
        · simp -implicitDefEqProofs [hB, h64]
        · have hd1 := hd.up h64
          simp -implicitDefEqProofs [hB, h64, ha1, hd1, hu']
          cases q : un (a + 1) (d + 1) with
          | bad e p a1 d1 => simp -implicitDefEqProofs [hB]
          | ok x a1 d1 =>
            obtain ⟨g1, g2, g3⟩ := hgu _ _ _ _ _ q ha1
            have g3 : d1 = d + 1 := g3
            subst g3
            have w1 := wrapN (a := d) (by omega)
            simp -implicitDefEqProofs [hB, w1, XE.cells, XE.rows]
    · have ha1 := isS_lt hK ha s2
      have ht := key _ s2
      simp -implicitDefEqProofs [ha, hB, h181, hd64, pSign, ht, s2]
      by_cases h64 : d = 64
      · simp -implicitDefEqProofs [hB, h64]
      · have hd1 := hd.up h64
        simp -implicitDefEqProofs [hB, h64, ha1, hd1, hu']
        cases q : un (a + 1) (d + 1) with
        | bad e p a1 d1 => simp -implicitDefEqProofs [hB]
        | ok x a1 d1 =>
          obtain ⟨g1, g2, g3⟩ := hgu _ _ _ _ _ q ha1
          have g3 : d1 = d + 1 := g3
          subst g3
          have w1 := wrapN (a := d) (by omega)
          simp -implicitDefEqProofs [hB, w1, XE.cells, XE.rows]
  · have ha1 := isS_lt hK ha s1
    have ht := key _ s1
    simp -implicitDefEqProofs [ha, hB, h181, hd64, pSign, ht, s1]
    by_cases h64 : d = 64
    · simp -implicitDefEqProofs [hB, h64]
    · have hd1 := hd.up h64
      simp -implicitDefEqProofs [hB, h64, ha1, hd1, hu']
      cases q : un (a + 1) (d + 1) with
      | bad e p a1 d1 => simp -implicitDefEqProofs [hB]
      | ok x a1 d1 =>
        obtain ⟨g1, g2, g3⟩ := hgu _ _ _ _ _ q ha1
        have g3 : d1 = d + 1 := g3
        subst g3
        have w1 := wrapN (a := d) (by omega)
        simp -implicitDefEqProofs [hB, w1, XE.cells, XE.rows]
end
end Go.Proofs.YtkeoalhglkfbkaaDoor

/-
  Expressions that are joined by signs. By the evaluator. No conditions.
-/
namespace Go.Proofs.YtkeoalhglkfbkaaDoor
open Go Hk

theorem pJoin_eq {L : List Token} {next : PM XE} {k n a d : Nat} {x : XE} : pJoin L next k (n + 1) x a d = match signOf (tk L a) k with
    | none => .ok x a d
    | some kind => if kind = 14 ∨ kind = 15 then (if (tk L (a + 1)).kind = 2 then pJoin L next k n (.mk kind (tk L a).pos (tk L (a + 1)).num [] [x]) (a + 1 + 1) d else .bad 10 (tk L (a + 1)).pos (a + 1) d)
        else match next (a + 1) d with
          | .bad e p a2 d2 => .bad e p a2 d2
          | .ok y a2 d2 => pJoin L next k n (.mk kind (tk L a).pos 0 [] [x, y]) a2 d2 := by
  rw [pJoin]
  simp only [pm_bind, PM.bind, pHere]
  cases signOf (tk L a) k with
  | none => rfl
  | some kind =>
    by_cases h : kind = 14 ∨ kind = 15
    · by_cases h2 : (tk L (a + 1)).kind = 2 <;> simp [h, h2]
    · simp only [h, if_false, pm_bind, PM.bind, pNext]
      cases next (a + 1) d <;> rfl

/-! ### Kept places -/
def isFree (h : Heap) (id : Nat) : Bool := match h[id]? with
  | some .free => true
  | _ => false
theorem isFree_iff {h : Heap} {id : Nat} : isFree h id = true → h[id]? = some .free := by
  unfold isFree
  split
  · rename_i e; exact fun _ => e
  · intro h; cases h
section
variable {A B C : List ABlk} {L : List Token} {a d k : Nat} {h : Heap}
@[simp] theorem isFree_zero {r : Heap} : isFree (.free :: r) 0 = true := (rfl)
@[simp] theorem isFree_succ {b : ABlk} {r : Heap} {n : Nat} : isFree (b :: r) (n + 1) = isFree r n := (rfl)
@[simp] theorem HQ_free : isFree (HQ A L a d (B ++ C)) (HN A B + k) = isFree C k := by unfold isFree; rw [HQ_at]
theorem anewAt_eq {id n : Nat} {v : AVal} (hf : isFree h id = true) : anewAt id n h v = if v.cells.length = n ∧ v.cells.all AVal.cellOk then some (.ptr id 0, h.set id (.cells v.cells)) else none := by
  unfold anewAt
  simp only [isFree_iff hf]
theorem xe_buildAt {x : XE} {id : Nat} (hf : isFree h id = true) : abuildSliceAt id 1 5 [.int .i64 0, .int .i64 0, .int .i64 0, .str [], .slice [] .nil] [(0, .agg x.cells)] h = some (.slice [x.cells] (.own id), h.set id (.front 1 5)) := by
  have := xe_build (x := x) (h := h)
  unfold abuildSlice at this
  unfold abuildSliceAt
  simp only [isFree_iff hf]
  split at this
  · rename_i rows hr
    cases this
    simp only [hr]
  · cases this
theorem HQ_take (hk : k ≤ C.length) : List.take (HN A B + k) (HQ A L a d (B ++ C)) = HQ A L a d (B ++ C.take k) := by
  have e : HQ A L a d (B ++ C) = HQ A L a d (B ++ C.take k) ++ C.drop k := by rw [HQ_app, List.append_assoc, List.take_append_drop]
  rw [e]
  have : HN A B + k = (HQ A L a d (B ++ C.take k)).length := by rw [HQ_len, HN_app, List.length_take, Nat.min_eq_left hk]
  rw [this, List.take_left]
theorem HQ_drop (hk : k ≤ C.length) : List.drop (HN A B + k) (HQ A L a d (B ++ C)) = C.drop k := by
  have e : HQ A L a d (B ++ C) = HQ A L a d (B ++ C.take k) ++ C.drop k := by rw [HQ_app, List.append_assoc, List.take_append_drop]
  rw [e]
  have : HN A B + k = (HQ A L a d (B ++ C.take k)).length := by rw [HQ_len, HN_app, List.length_take, Nat.min_eq_left hk]
  rw [this, List.drop_left]
theorem CBn_shut {n : Nat} : ∀ {cs : List AVal}, CBn n cs → cs.all (AVal.shut1 n) = true
  | [], _ => rfl
  | v :: cs, hc => by
    have key : ∀ h, (v.san1 n h).cellOk = true ∧ v.san1 n h = v ∧ sanCells n h cs = some cs := fun h => by
      have := hc n h (Nat.le_refl _)
      rw [sanCells_cons] at this
      cases he : (v.san1 n h).cellOk with
      | false => rw [he] at this; cases this
      | true =>
        rw [he] at this
        simp only [cond_true, Option.map_eq_some_iff, List.cons.injEq] at this
        obtain ⟨r, h1, h2, h3⟩ := this
        subst h3
        exact ⟨rfl, h2, h1⟩
    have hcs : CBn n cs := fun m h hm => by
      have := hc m h hm
      rw [sanCells_cons] at this
      cases he : (v.san1 m h).cellOk with
      | false => rw [he] at this; cases this
      | true =>
        rw [he] at this
        simp only [cond_true, Option.map_eq_some_iff, List.cons.injEq] at this
        obtain ⟨r, h1, h2, h3⟩ := this
        subst h3; exact h1
    rw [List.all_cons, CBn_shut hcs, Bool.and_true]
    obtain ⟨h1, h2, _⟩ := key []
    have nj : v.san1 n [] ≠ .junk := by intro e; rw [e] at h1; cases h1
    cases v with
    | slice rows t =>
      cases t with
      | own id =>
        rw [san1_own] at h2
        cases hd : decide (id < n) with
        | true => simpa [AVal.shut1, AVal.shut0, refOf] using hd
        | false => rw [hd] at h2; simp at h2
      | _ => rfl
    | ptr id off =>
      cases hd : decide (id < n) with
      | true => simpa [AVal.shut1, AVal.shut0, refOf] using hd
      | false => exact absurd (by simp [AVal.san1, hd]) nj
    | mslice id off len sz =>
      cases hd : decide (id < n) with
      | true => simpa [AVal.shut1, AVal.shut0, refOf] using hd
      | false => exact absurd (by simp [AVal.san1, hd]) nj
    | _ =>
      simp only [AVal.san1] at nj
      first
        | (cases hs : AVal.shut1 n _ with
           | true => rfl
           | false => rw [hs] at nj; exact absurd rfl nj)
        | rfl
theorem KBn_shut {n : Nat} : ∀ {C : List ABlk}, KBn n C → C.all (blkShut n) = true
  | [], _ => rfl
  | b :: C, hc => by
    have hC : KBn n C := fun m h hm => by
      have := hc m h hm
      rw [sanBlks_cons, Option.bind_eq_some_iff] at this
      obtain ⟨b', h1, h2⟩ := this
      rw [Option.map_eq_some_iff] at h2
      obtain ⟨r, h3, h4⟩ := h2
      cases h4; exact h3
    have hb : ∀ m h, n ≤ m → sanBlk m h b = some b := fun m h hm => by
      have := hc m h hm
      rw [sanBlks_cons, Option.bind_eq_some_iff] at this
      obtain ⟨b', h1, h2⟩ := this
      rw [Option.map_eq_some_iff] at h2
      obtain ⟨r, h3, h4⟩ := h2
      cases h4; exact h1
    rw [List.all_cons, KBn_shut hC, Bool.and_true]
    cases b with
    | cells cs =>
      refine CBn_shut (n := n) fun m h hm => ?_
      have := hb m h hm
      rw [sanBlk_cells, Option.map_eq_some_iff] at this
      obtain ⟨r, h1, h2⟩ := this
      cases h2; exact h1
    | map es =>
      have := hb n [] (Nat.le_refl _)
      simp only [sanBlk] at this
      cases he : es.all (fun e => e.2.shut1 n) with
      | true => exact he
      | false => rw [he] at this; cases this
    | _ => rfl
theorem HQ_shut {m : Nat} (hB : KB A B) (hm : m = HN A B) : (HQ A L a d B).all (blkShut m) = true := by
  subst hm
  unfold HQ
  rw [List.all_append, List.all_cons, KBn_shut (hB.a _ (Nat.le_refl _)), KBn_shut (hB.b _ (Nat.le_refl _))]
  rfl
theorem shutOr_ptr {m i o : Nat} (hi : i < m) : shutOr m (.ptr i o) = .ptr i o := by simp [shutOr, AVal.shut1, AVal.shut0, refOf, hi]
theorem hidK_normal {m : Nat} {kv : AVal → Heap → Option R} {v : AVal} {h' : Heap} : hidK m h kv (.normal, [v], h') = bif h'.length == m then kv v (h' ++ h.drop m) else none := (rfl)
/-- The blocks behind are dropped; what looked at them is changed. -/
theorem HQ_truncG {C1 C1' C2 : List ABlk} (hB : KB A B) (hk : k = C1.length) (hs : sanBlks (HN A B + k) (HQ A L a d (B ++ (C1 ++ C2))) C1 = some C1') :
    trunc (HN A B + k) (HQ A L a d (B ++ (C1 ++ C2))) = some (HQ A L a d (B ++ C1')) := by
  subst hk
  have e : HQ A L a d (B ++ (C1 ++ C2)) = HQ A L a d (B ++ C1) ++ C2 := by rw [HQ_app, List.append_assoc]
  have hl : HN A B + C1.length = (HQ A L a d (B ++ C1)).length := by rw [HQ_len, HN_app]
  have app : ∀ {m : Nat} {h : Heap} {X Y X' Y' : List ABlk}, sanBlks m h X = some X' → sanBlks m h Y = some Y' → sanBlks m h (X ++ Y) = some (X' ++ Y') := by
    intro m h X
    induction X with
    | nil => intro Y X' Y' h1 h2; simp [sanBlks] at h1; subst h1; exact h2
    | cons b r ih =>
      intro Y X' Y' h1 h2
      rw [sanBlks_cons, Option.bind_eq_some_iff] at h1
      obtain ⟨b', e1, e2⟩ := h1
      rw [Option.map_eq_some_iff] at e2
      obtain ⟨r', e3, rfl⟩ := e2
      rw [List.cons_append, sanBlks_cons, e1, Option.bind_some, ih e3 h2]
      rfl
  unfold Hk.trunc
  rw [show List.take (HN A B + C1.length) (HQ A L a d (B ++ (C1 ++ C2))) = HQ A L a d (B ++ C1) by rw [e, hl, List.take_left]]
  unfold HQ at hs ⊢
  have hPB : ∀ m h, sanBlk m h (PB L a d) = some (PB L a d) := fun _ _ => rfl
  refine app (hB.a _ (Nat.le_refl _) _ _ (by omega)) ?_
  rw [sanBlks_cons, hPB, Option.bind_some, app (hB.b _ (Nat.le_refl _) _ _ (by omega)) hs]
  rfl
end
end Go.Proofs.YtkeoalhglkfbkaaDoor

/-
  Chains of signs. By the evaluator. No conditions.
-/
namespace Go.Proofs.YtkeoalhglkfbkaaDoor
open Go Hk

@[simp] theorem xe_drop {x : XE} : x.cells.drop 5 = [] := List.drop_eq_nil_iff.2 (by simp)
@[simp] theorem keep5 {h : Heap} {os : List AVal} {k1 k2 k3 : IntKind} {z1 z2 z3 : Int} {w : List UInt8} {rows : List (List AVal)} {id : Nat} :
    keepTok h os [.int k1 z1, .int k2 z2, .int k3 z3, .str w, .slice rows (.own id)] = [.int k1 z1, .int k2 z2, .int k3 z3, .str w, .slice rows (.own id)] :=
  keepTok_none (by
    intro c hc
    simp only [List.mem_cons, List.not_mem_nil, or_false] at hc
    rcases hc with rfl | rfl | rfl | rfl | rfl <;> first | rfl | (cases rows <;> rfl))

/-- What 'chain' has in its frame. -/
def hC (A B : List ABlk) (x : XE) : List ABlk :=
  [.cells [.int .i64 0, .int .i64 0, .int .i64 0, .str [], .slice [] (.own (HN A B + 1))], .front 0 0, .cells x.cells, .front 0 0]

section
variable {L : List Token} (hL : L.length ≤ 131072) (hK : TokOk L)
variable {n : Nat} {next : PM XE} {k : Nat} (hn : Does L (dk n) 248 [.int .i64 ((k + 1 : Nat) : Int)] xEnc next) (hgn : PGood L 1 (fun d => d) next)
include hL hK hn hgn

theorem d248_round {A B : List ABlk} {d : Nat} (hB : KB A B) (hd : dk n d) (hk : k ≤ 6) (x : XE) (a : Nat) (ha : a < L.length) :
    m248_l0 KK (HN A B + 4) ([.ptr A.length 0, .int .i64 (k : Int), .ptr (HN A B) 0, .ptr (HN A B + 2) 0], HQ A L a d (B ++ hC A B x)) =
      match signOf (tk L a) k with
      | none => some (.ret, [.ptr A.length 0, .int .i64 (k : Int), .ptr (HN A B) 0, .ptr (HN A B + 2) 0], HQ A L a d (B ++ [.cells x.cells, .front 0 0, .cells x.cells, .front 0 0]))
      | some kind => if kind = 14 ∨ kind = 15 then (if (tk L (a + 1)).kind = 2 then
            some (.normal, [.ptr A.length 0, .int .i64 (k : Int), .ptr (HN A B) 0, .ptr (HN A B + 2) 0], HQ A L (a + 1 + 1) d (B ++ hC A B (.mk kind (tk L a).pos (tk L (a + 1)).num [] [x])))
          else some (.pan (wrongV 10 (tk L (a + 1)).pos), [.ptr A.length 0, .int .i64 (k : Int), .ptr (HN A B) 0, .ptr (HN A B + 2) 0], HQ A L (a + 1) d (B ++ hC A B x)))
        else match next (a + 1) d with
          | .bad e p a2 d2 => some (.pan (wrongV e p), [.ptr A.length 0, .int .i64 (k : Int), .ptr (HN A B) 0, .ptr (HN A B + 2) 0], HQ A L a2 d2 (B ++ hC A B x))
          | .ok y a2 d2 => some (.normal, [.ptr A.length 0, .int .i64 (k : Int), .ptr (HN A B) 0, .ptr (HN A B + 2) 0], HQ A L a2 d (B ++ hC A B (.mk kind (tk L a).pos 0 [] [x, y]))) := by
  have h249 := d249 (L := L) k
  have h76 := d76 (L := L)
  have h139 := d139 hL 2
  unfold Does at h249 h76 h139 hn
  simp only [Int.cast_ofNat_Int, Int.natCast_add, Int.cast_ofNat_Int] at h139 hn
  have hsp : ∀ h, AVal.san (HN A B + 4) h (.ptr A.length 0) = .ptr A.length 0 := fun h => san_ptr_lt A_lt
  have hsp2 : ∀ h, AVal.san (HN A B + 4) h (.ptr (HN A B) 0) = .ptr (HN A B) 0 := fun h => san_ptr_lt (by omega)
  have hsp3 : ∀ h, AVal.san (HN A B + 4) h (.ptr (HN A B + 2) 0) = .ptr (HN A B + 2) 0 := fun h => san_ptr_lt (by omega)
  have hKB : KB A (B ++ hC A B x) := hB.app (by simp [hC])
  have hKB2 : KB A (B ++ [.cells x.cells, .front 0 0, .cells x.cells, .front 0 0]) := hB.app (by simp)
  have htr : ∀ a d C, trunc (HN A B + 4) (HQ A L a d (B ++ (hC A B x ++ C))) = some (HQ A L a d (B ++ hC A B x)) := fun a d C => by
    have := HQ_truncK (L := L) (a := a) (d := d) (A := A) (B := B) (C := hC A B x ++ C) (k := 4) (by simpa [hC] using hKB) (by simp [hC])
    simpa [hC] using this
  have htr0 := fun a d => htr a d []
  have htr2 : ∀ a d C, trunc (HN A B + 4) (HQ A L a d (B ++ ([.cells x.cells, .front 0 0, .cells x.cells, .front 0 0] ++ C))) = some (HQ A L a d (B ++ [.cells x.cells, .front 0 0, .cells x.cells, .front 0 0])) := fun a d C => by
    have := HQ_truncK (L := L) (a := a) (d := d) (A := A) (B := B) (C := [.cells x.cells, .front 0 0, .cells x.cells, .front 0 0] ++ C) (k := 4) (by simpa using hKB2) (by simp)
    simpa using this
  have htr20 := fun a d => htr2 a d []
  have htrG : ∀ a d (z1 z2 z3 : Int) rows C, trunc (HN A B + 4) (HQ A L a d (B ++ (.cells [.int .i64 0, .int .i64 0, .int .i64 0, .str [], .slice [] (.own (HN A B + 1))] :: .front 0 0 :: .cells [.int .i64 z1, .int .i64 z2, .int .i64 z3, .str [], .slice rows (.own (HN A B + 4))] :: .front 0 0 :: C))) =
      some (HQ A L a d (B ++ [.cells [.int .i64 0, .int .i64 0, .int .i64 0, .str [], .slice [] (.own (HN A B + 1))], .front 0 0, .cells [.int .i64 z1, .int .i64 z2, .int .i64 z3, .str [], .slice rows .no], .front 0 0])) := fun a d z1 z2 z3 rows C =>
    HQ_truncG (C1 := [.cells [.int .i64 0, .int .i64 0, .int .i64 0, .str [], .slice [] (.own (HN A B + 1))], .front 0 0, .cells [.int .i64 z1, .int .i64 z2, .int .i64 z3, .str [], .slice rows (.own (HN A B + 4))], .front 0 0]) (C2 := C) hB rfl (by simp)
  simp only [hC, List.append_nil, List.cons_append, List.nil_append] at htr htr0 htr20
  have w1 := wrapS (a := a) (by omega)
  have w2 := wrapS (a := k) (by omega)
  cases hs : signOf (tk L a) k with
  | none =>
    have h1 := sgV_none hs
    simp -implicitDefEqProofs [m248_l0, hC, ha, hB, h249, h1, endR, htr20, hsp, hsp2, hsp3]
  | some kind =>
    have h1 := sgV_some hs
    have ha1 := kind_lt (k := 4) hK ha (by decide) (signOf_kind hs)
    simp -implicitDefEqProofs [m248_l0, hC, ha, hB, h249, h1, xe_buildAt, anewAt_eq, HQ_take, HQ_drop, HQ_shut, shutOr_ptr, A_lt, hidK_normal, h76, w1, endR, htr0, hsp, hsp2, hsp3]
    by_cases k14 : kind = 14 ∨ kind = 15
    · have k14' : (kind : Int) = 14 ∨ (kind : Int) = 15 := by omega
      have fin : ∀ b : Bool, b = true → True := fun _ _ => trivial
      by_cases h2 : (tk L (a + 1)).kind = 2
      · rcases k14 with rfl | rfl <;> simp -implicitDefEqProofs [ha1, hB, h139, h2, endR, htrG, hsp, hsp2, hsp3, XE.cells, XE.rows]
      · rcases k14 with rfl | rfl <;> simp -implicitDefEqProofs [ha1, hB, h139, h2, endR, htr, hsp, hsp2, hsp3]
    · have k14' : ¬ (kind : Int) = 14 := by omega
      have k15' : ¬ (kind : Int) = 15 := by omega
      simp -implicitDefEqProofs [ha1, hB, hn, hd, w2, k14, k14', k15']
      cases q : next (a + 1) d with
      | bad e p a2 d2 => simp -implicitDefEqProofs [hB, endR, htr, hsp, hsp2, hsp3]
      | ok y a2 d2 =>
        obtain ⟨g1, g2, g3⟩ := hgn _ _ _ _ _ q ha1
        have g3 : d = d2 := g3.symm
        subst g3
        have b2 := HQ_app1 (A := A) (B := B) (L := L) (a := a2) (d := d) (C := [.cells [.int .i64 0, .int .i64 0, .int .i64 0, .str [], .slice [] (.own (HN A B + 1))], .front 0 0, .cells x.cells, .front 0 0, .front 1 5, .cells [.int .i64 (kind : Int), .int .i64 ((tk L a).pos : Int), .int .i64 0, .str [], .slice [x.cells] (.own (HN A B + 4))], .front 1 5]) (k := 4) (rows := [x.cells]) (new := [y.cells]) (sz := 5) (by_ := 64) (sz' := 5) (t := .own (HN A B + 6)) (by simp) (.inl rfl) (by simp) (by simp) (by simp) (by simp)
        simp only [List.length_singleton, List.cons_append, List.nil_append, List.set_cons_succ, List.set_cons_zero] at b2
        simp -implicitDefEqProofs [hB, b2, endR, htrG, hsp, hsp2, hsp3, XE.cells, XE.rows]

theorem d248_loop {A B : List ABlk} {d : Nat} (hB : KB A B) (hd : dk n d) (hk : k ≤ 6) (m : Nat) (x : XE) (a : Nat) (ha : a < L.length) (hm : L.length < a + m) :
    ∃ r, lpW (m248_l0 KK (HN A B + 4)) ([.ptr A.length 0, .int .i64 (k : Int), .ptr (HN A B) 0, .ptr (HN A B + 2) 0], HQ A L a d (B ++ hC A B x)) = some r ∧
      match pJoin L next k m x a d with
      | .ok x' a' d' => r = (.ret, [.ptr A.length 0, .int .i64 (k : Int), .ptr (HN A B) 0, .ptr (HN A B + 2) 0], HQ A L a' d' (B ++ [.cells x'.cells, .front 0 0, .cells x'.cells, .front 0 0]))
      | .bad e p a' d' => ∃ vs C, r = (.pan (wrongV e p), vs, HQ A L a' d' (B ++ C)) := by
  refine lpW_post (σ := XE × Nat × Nat) (fun s => ([.ptr A.length 0, .int .i64 (k : Int), .ptr (HN A B) 0, .ptr (HN A B + 2) 0], HQ A L s.2.1 d (B ++ hC A B s.1)))
    (fun s => s.2.1 < L.length ∧ L.length < s.2.1 + s.2.2) (fun s => s.2.2)
    (fun s r => match pJoin L next k s.2.2 s.1 s.2.1 d with
      | .ok x' a' d' => r = (.ret, [.ptr A.length 0, .int .i64 (k : Int), .ptr (HN A B) 0, .ptr (HN A B + 2) 0], HQ A L a' d' (B ++ [.cells x'.cells, .front 0 0, .cells x'.cells, .front 0 0]))
      | .bad e p a' d' => ∃ vs C, r = (.pan (wrongV e p), vs, HQ A L a' d' (B ++ C))) ?_ (x, a, m) ⟨ha, hm⟩
  rintro ⟨x, a, m⟩ ⟨ha, hm⟩
  simp only at ha hm
  obtain ⟨m, rfl⟩ : ∃ j, m = j + 1 := ⟨m - 1, by omega⟩
  simp only [pJoin_eq, d248_round hL hK hn hgn hB hd hk x a ha]
  cases hs : signOf (tk L a) k with
  | none => exact .inr ⟨_, rfl, by simp, rfl⟩
  | some kind =>
    have ha1 := kind_lt (k := 4) hK ha (by decide) (signOf_kind hs)
    by_cases k14 : kind = 14 ∨ kind = 15
    · by_cases h2 : (tk L (a + 1)).kind = 2
      · left
        have ha2 := kind_lt (k := 2) hK ha1 (by decide) h2
        refine ⟨(.mk kind (tk L a).pos (tk L (a + 1)).num [] [x], a + 1 + 1, m), ?_, ⟨ha2, by simp; omega⟩, by simp, fun r hr => ?_⟩
        · simp only [k14, h2, if_true]
        · simp only [k14, h2, if_true]; exact hr
      · right
        refine ⟨(.pan (wrongV 10 (tk L (a + 1)).pos), [.ptr A.length 0, .int .i64 (k : Int), .ptr (HN A B) 0, .ptr (HN A B + 2) 0], HQ A L (a + 1) d (B ++ hC A B x)), ?_, by simp, ?_⟩
        · simp only [k14, h2, if_true, if_false]
        · simp only [k14, h2, if_true, if_false]
          exact ⟨_, _, rfl⟩
    · simp only [k14, if_false]
      cases q : next (a + 1) d with
      | bad e p a2 d2 => exact .inr ⟨_, rfl, by simp, _, _, rfl⟩
      | ok y a2 d2 =>
        obtain ⟨g1, g2, g3⟩ := hgn _ _ _ _ _ q ha1
        have g3 : d = d2 := g3.symm
        subst g3
        exact .inl ⟨(.mk kind (tk L a).pos 0 [] [x, y], a2, m), rfl, ⟨g2, by simp; omega⟩, by simp, fun r hr => hr⟩
end

section
variable {L : List Token} (hL : L.length ≤ 131072) (hK : TokOk L)
variable {n : Nat} {un : PM XE} (hu : Does L (dk n) 257 [] xEnc un) (hgu : PGood L 1 (fun d => d) un)
include hL hK hu hgu

theorem d248 : ∀ (j k : Nat), j + k = 7 → Does L (dk n) 248 [.int .i64 (k : Int)] xEnc (pChain L un j)
  | 0, k, hk => by
    intro A B a d ha hd hB
    have hk7 : k = 7 := by omega
    subst hk7
    refine evW_by (m248_eq _ _ _ _) ?_
    unfold Does at hu
    simp -implicitDefEqProofs [m248, pChain, ha, hd, hB, hu]
    cases q : un a d with
    | bad e p a1 d1 => simp -implicitDefEqProofs [hB]
    | ok x a1 d1 => simp -implicitDefEqProofs [hB]
  | j + 1, k, hk => by
    intro A B a d ha hd hB
    have ih := d248 j (k + 1) (by omega)
    have hgc := g_chain hK hgu j
    have ih' := ih
    unfold Does at ih'
    simp only [Int.natCast_add, Int.cast_ofNat_Int] at ih'
    have hk6 : k ≤ 6 := by omega
    have hj : 6 - j = k := by omega
    have hk6' : ¬ (6 : Int) < k := by omega
    have w2 := wrapS (a := k) (by omega)
    refine evW_by (m248_eq _ _ _ _) ?_
    simp only [pChain, hj]
    simp -implicitDefEqProofs [m248, ha, hd, hB, hk6', w2, ih']
    cases q : pChain L un j a d with
    | bad e p a1 d1 => simp -implicitDefEqProofs [hB]
    | ok x a1 d1 =>
      obtain ⟨g1, g2, g3⟩ := hgc _ _ _ _ _ q ha
      have g3 : d = d1 := g3.symm
      subst g3
      obtain ⟨r, h1, h2⟩ := d248_loop hL hK ih hgc hB hd hk6 131073 x a1 g2 (by omega)
      simp only [hC] at h1
      simp -implicitDefEqProofs [hB, h1]
      cases q2 : pJoin L (pChain L un j) k 131073 x a1 d with
      | bad e p a2 d2 =>
        rw [q2] at h2
        obtain ⟨vs, C, rfl⟩ := h2
        simp -implicitDefEqProofs [hB]
      | ok x' a2 d2 =>
        rw [q2] at h2
        subst h2
        simp -implicitDefEqProofs [hB]
end
end Go.Proofs.YtkeoalhglkfbkaaDoor

/-
  All expressions. By the evaluator. No conditions.
-/
namespace Go.Proofs.YtkeoalhglkfbkaaDoor
open Go Hk

theorem pureRow_app : ∀ {a b a' b' : List AVal}, pureRow a = some a' → pureRow b = some b' → pureRow (a ++ b) = some (a' ++ b')
  | [], b, a', b', h1, h2 => by simp only [pureRow, Option.some.injEq] at h1; subst h1; exact h2
  | v :: r, b, a', b', h1, h2 => by
    simp only [pureRow] at h1
    split at h1
    · rename_i x y e1 e2
      simp only [Option.some.injEq] at h1
      subst h1
      simp only [List.cons_append, pureRow, e1, pureRow_app e2 h2]
    · cases h1
@[simp] theorem xe_build2 {x y : XE} {h : Heap} : abuildSlice 2 5 [.int .i64 0, .int .i64 0, .int .i64 0, .str [], .slice [] .nil] [(0, .agg x.cells), (1, .agg y.cells)] h = some (.slice [x.cells, y.cells] (.own h.length), h ++ [.front 2 5]) := by
  have e1 : abuild (List.replicate 2 [AVal.int .i64 0, .int .i64 0, .int .i64 0, .str [], .slice [] .nil]).flatten ((List.range 2).map fun i => (i * 5, 5)) [(0, .agg x.cells), (1, .agg y.cells)] = some (.agg (x.cells ++ y.cells)) := by
    simp [abuild, putCells, AVal.isJunk, List.range_succ]
  have e2 := pureRow_app (XE.row.pure x) (XE.row.pure y)
  have e3 : (x.cells ++ y.cells).all AVal.cellOk = true := by rw [List.all_append, XE.row.ok x, XE.row.ok y]; rfl
  simp only [abuildSlice, abuildRow, e1, e2, e3, rowsOf]
  rw [if_pos ⟨rfl, trivial⟩]
  rw [List.take_append_of_le_length (by simp), xe_take, List.drop_append_of_le_length (by simp), xe_drop, List.nil_append, xe_take]

section
variable {L : List Token} (hL : L.length ≤ 131072) (hK : TokOk L)
include hL hK

theorem d230 {n : Nat} {un : PM XE} (hu : Does L (dk n) 257 [] xEnc un) (hgu : PGood L 1 (fun d => d) un) : Does L (dk n) 230 [] xEnc (pExpr L un) := by
  intro A B a d ha hd hB
  have h248 := d248 hL hK hu hgu 6 1 rfl
  have hgc := g_chain hK hgu 6
  have h249 := d249 (L := L) 0
  have h76 := d76 (L := L)
  unfold Does at h248 h249 h76
  simp only [Int.cast_ofNat_Int] at h248 h249
  refine evW_by (m230_eq _ _ _) ?_
  simp -implicitDefEqProofs [m230, pExpr, ha, hd, hB, h248]
  cases q : pChain L un 6 a d with
  | bad e p a1 d1 => simp -implicitDefEqProofs [hB]
  | ok x a1 d1 =>
    obtain ⟨g1, g2, g3⟩ := hgc _ _ _ _ _ q ha
    have g3 : d = d1 := g3.symm
    subst g3
    simp -implicitDefEqProofs [hB, g2, h249]
    cases hs : signOf (tk L a1) 0 with
    | none =>
      have h1 := sgV_none hs
      simp -implicitDefEqProofs [hB, h1]
    | some kind =>
      have h1 := sgV_some hs
      have ha1 := kind_lt (k := 4) hK g2 (by decide) (signOf_kind hs)
      have w1 := wrapS (a := a1) (by omega)
      simp -implicitDefEqProofs [hB, h1, g2, h76, w1, ha1, h248, hd]
      cases q2 : pChain L un 6 (a1 + 1) d with
      | bad e p a2 d2 => simp -implicitDefEqProofs [hB]
      | ok y a2 d2 =>
        obtain ⟨k1, k2, k3⟩ := hgc _ _ _ _ _ q2 ha1
        have k3 : d = d2 := k3.symm
        subst k3
        simp -implicitDefEqProofs [hB, XE.cells, XE.rows]

theorem un_all : ∀ n, Does L (dk n) 257 [] xEnc (pUn L n)
  | 0 => fun A B a d ha hd => by have h1 := hd.1; have h2 := hd.2; omega
  | n + 1 => d257 hL hK (d230 hL hK (un_all n) (g_un hK n)) (g_ex hK n) (un_all n) (g_un hK n)
theorem ex_all (n : Nat) : Does L (dk n) 230 [] xEnc (pEx L n) := d230 hL hK (un_all hL hK n) (g_un hK n)

theorem d229 (n : Nat) : Does L (dk n) 229 [] lEnc (pEnd L n) := by
  intro A B a d ha hd hB
  have he := ex_all hL hK n
  have hg := g_ex hK n
  have h138 := d138 hL
  unfold Does at he h138
  refine evW_by (m229_eq _ _ _) ?_
  simp -implicitDefEqProofs [m229, pEnd, ha, hd, hB, he]
  cases q : pEx L n a d with
  | bad e p a1 d1 => simp -implicitDefEqProofs [hB]
  | ok x a1 d1 =>
    obtain ⟨g1, g2, g3⟩ := hg _ _ _ _ _ q ha
    simp -implicitDefEqProofs [hB, g2, h138]
    cases hs : isS (tk L a1) [59] <;> simp -implicitDefEqProofs [hB]
end
end Go.Proofs.YtkeoalhglkfbkaaDoor

/-
  Statements that begin with a name. By the evaluator. No conditions.
-/
namespace Go.Proofs.YtkeoalhglkfbkaaDoor
open Go Hk

mutual
def XS.cells : XS → List AVal
  | .mk k p m name ty args body els has => [.int .i64 (k : Int), .int .i64 (p : Int), .int .i64 (m : Int), .str name, .int .i64 (ty.elem : Int), .int .i64 (ty.len : Int), .int .i64 (ty.label : Int),
      .slice (args.map XE.cells) .no, .slice (XS.rows body) .no, .slice (XS.rows els) .no, .bool has]
def XS.rows : List XS → List (List AVal)
  | [] => []
  | x :: r => x.cells :: XS.rows r
end
theorem XS.rows_eq : ∀ l : List XS, XS.rows l = l.map XS.cells
  | [] => rfl
  | x :: r => by simp [XS.rows, XS.rows_eq r]
theorem XS.row : RowOk XS.cells 11 := ⟨fun x => by cases x; simp [XS.cells], fun x => by cases x; simp [XS.cells, pureRow, AVal.pure1], fun x => by cases x; simp [XS.cells]⟩

/-- What 'stmt' has in its frame. -/
def sC (A B : List ABlk) (z0 pos most : Int) (name : List UInt8) (ty : Ty) (args body els : AVal) (has : Bool) : List ABlk :=
  [.cells [.int .i64 0, .int .i64 0, .int .i64 0, .str [], .int .i64 0, .int .i64 0, .int .i64 0, .slice [] (.own (HN A B + 1)), .slice [] (.own (HN A B + 2)), .slice [] (.own (HN A B + 3)), .bool false], .front 0 0, .front 0 0, .front 0 0,
   .cells [.int .i64 z0, .int .i64 pos, .int .i64 most, .str name, .int .i64 (ty.elem : Int), .int .i64 (ty.len : Int), .int .i64 (ty.label : Int), args, body, els, .bool has], .front 0 0, .front 0 0, .front 0 0]

section
variable {L : List Token} (hL : L.length ≤ 131072) (hK : TokOk L)
include hL hK

theorem c231 {n : Nat} {A B : List ABlk} {a d pos : Nat} (ha : a < L.length) (hd : dk (n + 1) d) (hB : KB A B) :
    match pNamed L (n + 1) pos a d with
    | .bad e p a' d' => ∃ C, KK 231 [.ptr A.length 0, .ptr (HN A B + 4) 0] (HQ A L a d (B ++ sC A B 0 pos 0 [] ⟨0, 0, 0⟩ (.slice [] (.own (HN A B + 5))) (.slice [] (.own (HN A B + 6))) (.slice [] (.own (HN A B + 7))) false)) = some (.pan (wrongV e p), HQ A L a' d' (B ++ C))
    | .ok s a' d' => ∃ (k : Nat) (name : List UInt8) (args : List XE), s = .mk k pos 0 name ⟨0, 0, 0⟩ args [] [] false ∧
        KK 231 [.ptr A.length 0, .ptr (HN A B + 4) 0] (HQ A L a d (B ++ sC A B 0 pos 0 [] ⟨0, 0, 0⟩ (.slice [] (.own (HN A B + 5))) (.slice [] (.own (HN A B + 6))) (.slice [] (.own (HN A B + 7))) false)) =
          some (.ret (.tuple []), HQ A L a' d' (B ++ sC A B k pos 0 name ⟨0, 0, 0⟩ (.slice (args.map XE.cells) .no) (.slice [] (.own (HN A B + 6))) (.slice [] (.own (HN A B + 7))) false)) := by
  have he := ex_all hL hK n
  have hg := g_ex hK n
  have h139 := d139 hL 1
  have h178 := d178 (L := L)
  have h138 := d138 hL
  have h250 := fun t => d250 hL hK he hg t
  have h229 := d229 hL hK (n + 1)
  unfold Does at h139 h178 h138 h250 h229
  simp only [Int.cast_ofNat_Int] at h139
  have ev : ∀ r, m231 KK (.ptr A.length 0) (.ptr (HN A B + 4) 0) (HQ A L a d (B ++ sC A B 0 pos 0 [] ⟨0, 0, 0⟩ (.slice [] (.own (HN A B + 5))) (.slice [] (.own (HN A B + 6))) (.slice [] (.own (HN A B + 7))) false)) = some r →
      KK 231 [.ptr A.length 0, .ptr (HN A B + 4) 0] (HQ A L a d (B ++ sC A B 0 pos 0 [] ⟨0, 0, 0⟩ (.slice [] (.own (HN A B + 5))) (.slice [] (.own (HN A B + 6))) (.slice [] (.own (HN A B + 7))) false)) = some r := fun r hr => evW_by (m231_eq _ _ _ _) hr
  have hKB : ∀ (z0 : Int) nm, KB A (B ++ sC A B z0 pos 0 nm ⟨0, 0, 0⟩ (.slice [] (.own (HN A B + 5))) (.slice [] (.own (HN A B + 6))) (.slice [] (.own (HN A B + 7))) false) := fun z0 nm => hB.app (by simp [sC])
  have hKB2 : ∀ (z0 : Int) nm rows, KB A (B ++ sC A B z0 pos 0 nm ⟨0, 0, 0⟩ (.slice rows .no) (.slice [] (.own (HN A B + 6))) (.slice [] (.own (HN A B + 7))) false) := fun z0 nm rows => hB.app (by simp [sC])
  have htr : ∀ a d (z0 : Int) nm C, trunc (HN A B + 8) (HQ A L a d (B ++ (sC A B z0 pos 0 nm ⟨0, 0, 0⟩ (.slice [] (.own (HN A B + 5))) (.slice [] (.own (HN A B + 6))) (.slice [] (.own (HN A B + 7))) false ++ C))) =
      some (HQ A L a d (B ++ sC A B z0 pos 0 nm ⟨0, 0, 0⟩ (.slice [] (.own (HN A B + 5))) (.slice [] (.own (HN A B + 6))) (.slice [] (.own (HN A B + 7))) false)) := fun a d z0 nm C =>
    HQ_truncG hB rfl (by simp [sC])
  have htr2 : ∀ a d (z0 : Int) nm rows C, trunc (HN A B + 8) (HQ A L a d (B ++ (sC A B z0 pos 0 nm ⟨0, 0, 0⟩ (.slice rows .no) (.slice [] (.own (HN A B + 6))) (.slice [] (.own (HN A B + 7))) false ++ C))) =
      some (HQ A L a d (B ++ sC A B z0 pos 0 nm ⟨0, 0, 0⟩ (.slice rows .no) (.slice [] (.own (HN A B + 6))) (.slice [] (.own (HN A B + 7))) false)) := fun a d z0 nm rows C =>
    HQ_truncG hB rfl (by simp [sC])
  have htr3 : ∀ a d (z0 : Int) nm rows j C, 8 ≤ j → trunc (HN A B + 8) (HQ A L a d (B ++ (sC A B z0 pos 0 nm ⟨0, 0, 0⟩ (.slice rows (.own (HN A B + j))) (.slice [] (.own (HN A B + 6))) (.slice [] (.own (HN A B + 7))) false ++ C))) =
      some (HQ A L a d (B ++ sC A B z0 pos 0 nm ⟨0, 0, 0⟩ (.slice rows .no) (.slice [] (.own (HN A B + 6))) (.slice [] (.own (HN A B + 7))) false)) := fun a d z0 nm rows j C hj =>
    HQ_truncG hB rfl (by
      have : ¬ j < 8 := by omega
      simp [sC, this])
  simp only [sC, List.cons_append, List.nil_append, Int.cast_ofNat_Int] at htr htr2 htr3
  by_cases hk : (tk L a).kind = 1
  · have ha1 := kind_lt (k := 1) hK ha (by decide) hk
    cases s1 : isS (tk L (a + 1)) [40]
    · cases s2 : isS (tk L (a + 1)) [91]
      · cases s3 : isS (tk L (a + 1)) [61]
        · rw [show pNamed L (n + 1) pos a d = .bad 10 (tk L (a + 1)).pos (a + 1) d by simp [pNamed, hk, s1, s2, s3]]
          refine ⟨sC A B 0 pos 0 (tk L a).text ⟨0, 0, 0⟩ (.slice [] (.own (HN A B + 5))) (.slice [] (.own (HN A B + 6))) (.slice [] (.own (HN A B + 7))) false, ev _ ?_⟩
          simp -implicitDefEqProofs [m231, sC, ha, hB, h139, hk, ha1, h178, h138, s1, s2, s3, finP, htr]
        · have ha2 := isS_lt hK ha1 s3
          cases q : pEnd L (n + 1) (a + 1 + 1) d with
          | bad e p a2 d2 =>
            rw [show pNamed L (n + 1) pos a d = .bad e p a2 d2 by simp [pNamed, hk, s1, s2, s3, q]]
            refine ⟨sC A B 0 pos 0 (tk L a).text ⟨0, 0, 0⟩ (.slice [] (.own (HN A B + 5))) (.slice [] (.own (HN A B + 6))) (.slice [] (.own (HN A B + 7))) false, ev _ ?_⟩
            simp -implicitDefEqProofs [m231, sC, ha, hB, h139, hk, ha1, h178, h138, s1, s2, s3, ha2, h229, hd, q, finP, htr]
          | ok l a2 d2 =>
            rw [show pNamed L (n + 1) pos a d = .ok (.mk 3 pos 0 (tk L a).text ⟨0, 0, 0⟩ l [] [] false) a2 d2 by simp [pNamed, hk, s1, s2, s3, q]]
            refine ⟨3, (tk L a).text, l, rfl, ev _ ?_⟩
            simp -implicitDefEqProofs [m231, sC, ha, hB, h139, hk, ha1, h178, h138, s1, s2, s3, ha2, h229, hd, q, finR, htr2]
      · have hB' : KB A (B ++ (sC A B 4 pos 0 (tk L a).text ⟨0, 0, 0⟩ (.slice [] (.own (HN A B + 5))) (.slice [] (.own (HN A B + 6))) (.slice [] (.own (HN A B + 7))) false ++ [.cells (tk L a).cells])) := hB.app (by simp [sC])
        have i1 := c251 hL hK he hg ha1 hd hB'
        simp only [sC, Token.cells, List.cons_append, List.nil_append, hk, Int.cast_ofNat_Int] at i1
        cases q3 : pIndex L (pEx L n) (a + 1) d with
        | bad e p a3 d3 =>
          rw [show pNamed L (n + 1) pos a d = .bad e p a3 d3 by simp [pNamed, hk, s1, s2, q3]]
          rw [q3] at i1
          refine ⟨sC A B 4 pos 0 (tk L a).text ⟨0, 0, 0⟩ (.slice [] (.own (HN A B + 5))) (.slice [] (.own (HN A B + 6))) (.slice [] (.own (HN A B + 7))) false, ev _ ?_⟩
          simp -implicitDefEqProofs [m231, sC, ha, hB, h139, hk, ha1, h178, s1, s2, i1, finP, htr]
        | ok l a3 d3 =>
          rw [q3] at i1
          obtain ⟨x, rfl, i2⟩ := i1
          obtain ⟨g1, g2, g3⟩ := (g_index hK hg) _ _ _ _ _ q3 ha1
          have g3 : d = d3 := g3.symm
          subst g3
          simp -implicitDefEqProofs only [HN_app, List.length_cons, List.length_nil, List.append_assoc, List.cons_append, List.nil_append, HN_succ] at i2
          simp at i2
          cases s3 : isS (tk L a3) [61]
          · rw [show pNamed L (n + 1) pos a d = .bad 10 (tk L a3).pos a3 d by simp [pNamed, hk, s1, s2, q3, s3]]
            refine ⟨sC A B 4 pos 0 (tk L a).text ⟨0, 0, 0⟩ (.slice [] (.own (HN A B + 5))) (.slice [] (.own (HN A B + 6))) (.slice [] (.own (HN A B + 7))) false, ev _ ?_⟩
            simp -implicitDefEqProofs [m231, sC, ha, hB, h139, hk, ha1, h178, s1, s2, i2, g2, h138, s3, finP, htr]
          · have ha4 := isS_lt hK g2 s3
            cases q : pEnd L (n + 1) (a3 + 1) d with
            | bad e p a2 d2 =>
              rw [show pNamed L (n + 1) pos a d = .bad e p a2 d2 by simp [pNamed, hk, s1, s2, q3, s3, q]]
              refine ⟨sC A B 4 pos 0 (tk L a).text ⟨0, 0, 0⟩ (.slice [] (.own (HN A B + 5))) (.slice [] (.own (HN A B + 6))) (.slice [] (.own (HN A B + 7))) false, ev _ ?_⟩
              simp -implicitDefEqProofs [m231, sC, ha, hB, h139, hk, ha1, h178, s1, s2, i2, g2, h138, s3, ha4, h229, hd, q, finP, htr]
            | ok l a2 d2 =>
              rw [show pNamed L (n + 1) pos a d = .ok (.mk 4 pos 0 (tk L a).text ⟨0, 0, 0⟩ ([x] ++ l) [] [] false) a2 d2 by simp [pNamed, hk, s1, s2, q3, s3, q]]
              refine ⟨4, (tk L a).text, [x] ++ l, rfl, ev _ ?_⟩
              have hlen : l.length = 1 := by
                revert q
                simp only [pEnd, pm_bind, PM.bind]
                cases pEx L (n + 1) (a3 + 1) d with
                | bad => intro q; cases q
                | ok y a5 d5 =>
                  simp only [pTake]
                  split
                  · rename_i v a' d' h; split at h
                    · cases h; intro q; cases q; rfl
                    · cases h
                  · intro q; cases q
              have b2 := HQ_app1 (A := A) (B := B) (L := L) (a := a2) (d := d2) (C := sC A B 4 pos 0 (tk L a).text ⟨0, 0, 0⟩ (.slice [] (.own (HN A B + 5))) (.slice [] (.own (HN A B + 6))) (.slice [] (.own (HN A B + 7))) false ++ [.cells [.int .i64 1, .int .i64 ((tk L a).pos : Int), .int .i64 ((tk L a).num : Int), .str (tk L a).text], .front 0 0, .cells x.cells, .front 0 0, .front 1 5]) (k := 12) (rows := [x.cells]) (new := l.map XE.cells) (sz := 5) (by_ := 64) (sz' := 5) (t := .no) rfl (.inl rfl) (by simp) (by intro h; simp at h; rw [h] at hlen; cases hlen) (by simp [hlen]) (by simp [hlen])
              simp only [sC, List.length_singleton, List.length_map, hlen, List.cons_append, List.nil_append, List.set_cons_succ, List.set_cons_zero, Int.cast_ofNat_Int] at b2
              simp -implicitDefEqProofs [m231, sC, ha, hB, h139, hk, ha1, h178, s1, s2, i2, g2, h138, s3, ha4, h229, hd, q, b2, finR, htr3]
    · have hB' : KB A (B ++ (sC A B 7 pos 0 [] ⟨0, 0, 0⟩ (.slice [] (.own (HN A B + 5))) (.slice [] (.own (HN A B + 6))) (.slice [] (.own (HN A B + 7))) false ++ [.cells (tk L a).cells])) := hB.app (by simp [sC])
      have i1 := h250 (tk L a) A _ (a + 1) d ha1 hd hB'
      simp only [sC, Token.cells, List.cons_append, List.nil_append, hk, Int.cast_ofNat_Int] at i1
      cases q3 : pCall L (pEx L n) (tk L a) (a + 1) d with
      | bad e p a3 d3 =>
        rw [show pNamed L (n + 1) pos a d = .bad e p a3 d3 by simp [pNamed, hk, s1, q3]]
        rw [q3] at i1
        refine ⟨sC A B 7 pos 0 [] ⟨0, 0, 0⟩ (.slice [] (.own (HN A B + 5))) (.slice [] (.own (HN A B + 6))) (.slice [] (.own (HN A B + 7))) false, ev _ ?_⟩
        simp -implicitDefEqProofs [m231, sC, ha, hB, h139, hk, ha1, h178, s1, i1, finP, htr]
      | ok x a3 d3 =>
        rw [q3] at i1
        obtain ⟨g1, g2, g3⟩ := (g_call hK hg) _ _ _ _ _ q3 ha1
        cases s3 : isS (tk L a3) [59]
        · rw [show pNamed L (n + 1) pos a d = .bad 10 (tk L a3).pos a3 d3 by simp [pNamed, hk, s1, q3, s3]]
          refine ⟨sC A B 7 pos 0 [] ⟨0, 0, 0⟩ (.slice [x.cells] .no) (.slice [] (.own (HN A B + 6))) (.slice [] (.own (HN A B + 7))) false, ev _ ?_⟩
          simp -implicitDefEqProofs [m231, sC, ha, hB, h139, hk, ha1, h178, s1, i1, g2, h138, s3, finP, htr3]
        · rw [show pNamed L (n + 1) pos a d = .ok (.mk 7 pos 0 [] ⟨0, 0, 0⟩ [x] [] [] false) (a3 + 1) d3 by simp [pNamed, hk, s1, q3, s3]]
          refine ⟨7, [], [x], rfl, ev _ ?_⟩
          simp -implicitDefEqProofs [m231, sC, ha, hB, h139, hk, ha1, h178, s1, i1, g2, h138, s3, finR, htr3]
  · rw [show pNamed L (n + 1) pos a d = .bad 10 (tk L a).pos a d by simp [pNamed, hk]]
    refine ⟨sC A B 0 pos 0 [] ⟨0, 0, 0⟩ (.slice [] (.own (HN A B + 5))) (.slice [] (.own (HN A B + 6))) (.slice [] (.own (HN A B + 7))) false, ev _ ?_⟩
    simp -implicitDefEqProofs [m231, sC, ha, hB, h139, hk, finP, htr]
end
end Go.Proofs.YtkeoalhglkfbkaaDoor

/-
  Statements. By the evaluator. No conditions.
-/
namespace Go.Proofs.YtkeoalhglkfbkaaDoor
open Go Hk

section
variable {x : XS} {n m : Nat} {h : Heap}
@[simp] theorem xs_len : x.cells.length = 11 := XS.row.len x
@[simp] theorem xs_take : x.cells.take 11 = x.cells := List.take_of_length_le (by simp)
theorem xs_ok : ∀ c ∈ x.cells, c.cellOk = true := by simpa using XS.row.ok x
@[simp] theorem xs_ok2 : (∀ c, c ∈ x.cells → c.cellOk = true) = True := eq_true xs_ok
@[simp] theorem xs_nonil {os : List AVal} : keepTok h os x.cells = x.cells := keepTok_none (by cases x; simp [XS.cells, AVal.isNil])
@[simp] theorem xs_keep : x.cells.map (AVal.untok1 ∘ fun c => AVal.san1 m h c) = x.cells := by cases x; simp [XS.cells]
@[simp] theorem xs_CBn : CBn n x.cells := by cases x; simp [XS.cells]
end
def sEnc (x : XS) : AVal := .agg x.cells
def bkEnc (l : List XS) : AVal := .slice (l.map XS.cells) .no
attribute [simp] sEnc bkEnc

section
variable {L : List Token} (hL : L.length ≤ 131072) (hK : TokOk L)
include hL hK

set_option maxHeartbeats 1000000 in
theorem d182 {n : Nat} {bl : PM (List XS)} (hb : Does L (dk (n + 1)) 146 [] bkEnc bl) (hgb : PGood L 1 (fun d => d) bl) : Does L (dk (n + 1)) 182 [] sEnc (pStmt L bl (n + 1)) := by
  intro A B a d ha hd hB
  have h230 := ex_all hL hK (n + 1)
  have hge := g_ex hK (n + 1)
  have h76 := d76 (L := L)
  have h143 := d143 hL
  have h138 := d138 hL
  have h139 := fun k => d139 hL k
  have h145 := d145 hL
  have h180 := d180 hL hK
  have h229 := d229 hL hK (n + 1)
  have hgd := g_end hK (n + 1)
  unfold Does at h230 h76 h143 h138 h139 h145 h180 h229 hb
  have h1391 := h139 1
  have h1392 := h139 2
  simp only [Int.cast_ofNat_Int] at h1391 h1392
  refine evW_by (m182_eq _ _ _) ?_
  simp -implicitDefEqProofs [m182, pStmt, ha, hB, h76, h143]
  cases s1 : isS (tk L a) [108, 101, 116]
  · simp -implicitDefEqProofs [ha, hB, h143]
    cases s2 : isS (tk L a) [118, 97, 114]
    · simp -implicitDefEqProofs [ha, hB, h143]
      cases s3 : isS (tk L a) [105, 102]
      · simp -implicitDefEqProofs [ha, hB, h143]
        cases s4 : isS (tk L a) [102, 111, 114]
        · simp -implicitDefEqProofs [ha, hB, h143]
          cases s5 : isS (tk L a) [114, 101, 116, 117, 114, 110]
          · have i1 := c231 hL hK (A := A) (B := B) (pos := (tk L a).pos) ha hd hB
            simp only [sC, Int.cast_ofNat_Int] at i1
            simp -implicitDefEqProofs [hB]
            cases q : pNamed L (n + 1) (tk L a).pos a d with
            | bad e p a1 d1 =>
              rw [q] at i1
              obtain ⟨C, i2⟩ := i1
              simp -implicitDefEqProofs [hB, i2]
            | ok s a1 d1 =>
              rw [q] at i1
              obtain ⟨k, name, args, rfl, i2⟩ := i1
              simp -implicitDefEqProofs [hB, i2, XS.cells, XS.rows]
          · have ha1 := isS_lt hK ha s5
            simp -implicitDefEqProofs [hB, ha1, hd, h229]
            cases q : pEnd L (n + 1) (a + 1) d with
            | bad e p a1 d1 => simp -implicitDefEqProofs [hB]
            | ok l a1 d1 => simp -implicitDefEqProofs [hB, XS.cells, XS.rows]
        · have ha1 := isS_lt hK ha s4
          simp -implicitDefEqProofs [hB, ha1, h1391]
          by_cases k1 : (tk L (a + 1)).kind = 1
          · have ha2 := kind_lt (k := 1) hK ha1 (by decide) k1
            simp -implicitDefEqProofs [hB, k1, ha2, h138]
            cases t1 : isS (tk L (a + 1 + 1)) [60]
            · simp -implicitDefEqProofs [hB]
            · have ha3 := isS_lt hK ha2 t1
              simp -implicitDefEqProofs [hB, ha3, h230, hd]
              cases q : pEx L (n + 1) (a + 1 + 1 + 1) d with
              | bad e p a4 d4 => simp -implicitDefEqProofs [hB]
              | ok x a4 d4 =>
                obtain ⟨g1, g2, g3⟩ := hge _ _ _ _ _ q ha3
                have g3 : d = d4 := g3.symm
                subst g3
                simp -implicitDefEqProofs [hB, g2, h138]
                cases t2 : isS (tk L a4) [109, 97, 120]
                · simp -implicitDefEqProofs [hB]
                · have ha5 := isS_lt hK g2 t2
                  simp -implicitDefEqProofs [hB, ha5, h1392]
                  by_cases k2 : (tk L (a4 + 1)).kind = 2
                  · have ha6 := kind_lt (k := 2) hK ha5 (by decide) k2
                    simp -implicitDefEqProofs [hB, k2, ha6, hb, hd]
                    cases q2 : bl (a4 + 1 + 1) d with
                    | bad e p a7 d7 => simp -implicitDefEqProofs [hB]
                    | ok l a7 d7 => simp -implicitDefEqProofs [hB, XS.cells, XS.rows, XS.rows_eq]
                  · simp -implicitDefEqProofs [hB, k2]
          · simp -implicitDefEqProofs [hB, k1]
      · have ha1 := isS_lt hK ha s3
        simp -implicitDefEqProofs [hB, ha1, h230, hd]
        cases q : pEx L (n + 1) (a + 1) d with
        | bad e p a4 d4 => simp -implicitDefEqProofs [hB]
        | ok x a4 d4 =>
          obtain ⟨g1, g2, g3⟩ := hge _ _ _ _ _ q ha1
          have g3 : d = d4 := g3.symm
          subst g3
          simp -implicitDefEqProofs [hB, g2, hb, hd]
          cases q2 : bl a4 d with
          | bad e p a5 d5 => simp -implicitDefEqProofs [hB]
          | ok l a5 d5 =>
            obtain ⟨j1, j2, j3⟩ := hgb _ _ _ _ _ q2 g2
            have j3 : d = d5 := j3.symm
            subst j3
            simp -implicitDefEqProofs [hB, j2, h143]
            cases t1 : isS (tk L a5) [101, 108, 115, 101]
            · simp -implicitDefEqProofs [hB, XS.cells, XS.rows, XS.rows_eq]
            · have ha6 := isS_lt hK j2 t1
              simp -implicitDefEqProofs [hB, ha6, hb, hd]
              cases q3 : bl (a5 + 1) d with
              | bad e p a7 d7 => simp -implicitDefEqProofs [hB]
              | ok l2 a7 d7 => simp -implicitDefEqProofs [hB, XS.cells, XS.rows, XS.rows_eq]
    · have ha1 := isS_lt hK ha s2
      simp -implicitDefEqProofs [hB, ha1, h145]
      cases q : pLabel L (a + 1) d with
      | bad e p a2 d2 => simp -implicitDefEqProofs [hB]
      | ok lab a2 d2 =>
        obtain ⟨g1, g2, g3⟩ := g_label hK _ _ _ _ _ q ha1
        have g3 : d = d2 := g3.symm
        subst g3
        simp -implicitDefEqProofs [hB, g2, h1391]
        by_cases k1 : (tk L a2).kind = 1
        · have ha3 := kind_lt (k := 1) hK g2 (by decide) k1
          simp -implicitDefEqProofs [hB, k1, ha3, h138]
          cases t1 : isS (tk L (a2 + 1)) [58]
          · simp -implicitDefEqProofs [hB]
          · have ha4 := isS_lt hK ha3 t1
            simp -implicitDefEqProofs [hB, ha4, h180]
            cases q2 : pKinds L lab (a2 + 1 + 1) d with
            | bad e p a5 d5 => simp -implicitDefEqProofs [hB]
            | ok ty a5 d5 =>
              obtain ⟨j1, j2, j3⟩ := g_kinds hK _ _ _ _ _ q2 ha4
              simp -implicitDefEqProofs [hB, j2, h138]
              cases t2 : isS (tk L a5) [59] <;> simp -implicitDefEqProofs [hB, XS.cells, XS.rows]
        · simp -implicitDefEqProofs [hB, k1]
  · have ha1 := isS_lt hK ha s1
    simp -implicitDefEqProofs [hB, ha1, h1391]
    by_cases k1 : (tk L (a + 1)).kind = 1
    · have ha2 := kind_lt (k := 1) hK ha1 (by decide) k1
      simp -implicitDefEqProofs [hB, k1, ha2, h138]
      cases t1 : isS (tk L (a + 1 + 1)) [61]
      · simp -implicitDefEqProofs [hB]
      · have ha3 := isS_lt hK ha2 t1
        simp -implicitDefEqProofs [hB, ha3, h229, hd]
        cases q : pEnd L (n + 1) (a + 1 + 1 + 1) d with
        | bad e p a4 d4 => simp -implicitDefEqProofs [hB]
        | ok l a4 d4 => simp -implicitDefEqProofs [hB, XS.cells, XS.rows]
    · simp -implicitDefEqProofs [hB, k1]
end
end Go.Proofs.YtkeoalhglkfbkaaDoor

/-
  Blocks. By the evaluator. No conditions.
-/
namespace Go.Proofs.YtkeoalhglkfbkaaDoor
open Go Hk

theorem pStmts_eq {L : List Token} {stmt : PM XS} {m a d : Nat} {l : List XS} : pStmts L stmt (m + 1) l a d = if isS (tk L a) [125] = true then .ok l a d else match stmt a d with
    | .bad e p a1 d1 => .bad e p a1 d1
    | .ok x a1 d1 => pStmts L stmt m (l ++ [x]) a1 d1 := by
  rw [pStmts]
  simp only [pm_bind, PM.bind, pIs]
  cases h : isS (tk L a) [125]
  · simp only [Bool.false_eq_true, if_false, PM.bind]
    cases stmt a d <;> rfl
  · simp [pm_pure]

section
variable {L : List Token} (hL : L.length ≤ 131072) (hK : TokOk L)
include hL hK

omit hK in
theorem d146_loop {n : Nat} {st : PM XS} (hs : Does L (dk n) 182 [] sEnc st) (hg : PGood L 1 (fun d => d) st) {A B : List ABlk} {d : Nat} (hB : KB A B) (hd : dk n d) (m : Nat) (l : List XS) (a : Nat) (ha : a < L.length) (hm : L.length < a + m) (hl : l.length ≤ a) :
    ∃ r, lpW (m146_l0 KK (HN A B + 2)) ([.ptr A.length 0, .slice [] (.own (HN A B)), .slice (l.map XS.cells) (.own (HN A B + 1))], HQ A L a d (B ++ [.front 0 0, .front l.length (fsz l.length 11)])) = some r ∧
      match pStmts L st m l a d with
      | .ok l' a' d' => r = (.exit 0, [.ptr A.length 0, .slice [] (.own (HN A B)), .slice (l'.map XS.cells) (.own (HN A B + 1))], HQ A L a' d' (B ++ [.front 0 0, .front l'.length (fsz l'.length 11)]))
      | .bad e p a' d' => ∃ vs C, r = (.pan (wrongV e p), vs, HQ A L a' d' (B ++ C)) := by
  have h178 := d178 (L := L)
  unfold Does at h178 hs
  refine lpW_post (σ := List XS × Nat × Nat) (fun s => ([.ptr A.length 0, .slice [] (.own (HN A B)), .slice (s.1.map XS.cells) (.own (HN A B + 1))], HQ A L s.2.1 d (B ++ [.front 0 0, .front s.1.length (fsz s.1.length 11)])))
    (fun s => s.2.1 < L.length ∧ L.length < s.2.1 + s.2.2 ∧ s.1.length ≤ s.2.1) (fun s => s.2.2)
    (fun s r => match pStmts L st s.2.2 s.1 s.2.1 d with
      | .ok l' a' d' => r = (.exit 0, [.ptr A.length 0, .slice [] (.own (HN A B)), .slice (l'.map XS.cells) (.own (HN A B + 1))], HQ A L a' d' (B ++ [.front 0 0, .front l'.length (fsz l'.length 11)]))
      | .bad e p a' d' => ∃ vs C, r = (.pan (wrongV e p), vs, HQ A L a' d' (B ++ C))) ?_ (l, a, m) ⟨ha, hm, hl⟩
  rintro ⟨l, a, m⟩ ⟨ha, hm, hl⟩
  simp only at ha hm hl
  obtain ⟨m, rfl⟩ : ∃ j, m = j + 1 := ⟨m - 1, by omega⟩
  have hsp : ∀ h, AVal.san (HN A B + 2) h (.ptr A.length 0) = .ptr A.length 0 := fun h => san_ptr_lt A_lt
  have hKB : ∀ x y, KB A (B ++ [.front 0 0, .front x y]) := fun x y => hB.app (by simp)
  have htr : ∀ a d x y C, trunc (HN A B + 2) (HQ A L a d (B ++ (.front 0 0 :: .front x y :: C))) = some (HQ A L a d (B ++ [.front 0 0, .front x y])) := fun a d x y C => by
    have := HQ_truncK (L := L) (a := a) (d := d) (A := A) (B := B) (C := .front 0 0 :: .front x y :: C) (k := 2) (by simpa using hKB x y) (by simp)
    simpa using this
  have hfst : m146_l0 KK (HN A B + 2) ([.ptr A.length 0, .slice [] (.own (HN A B)), .slice (l.map XS.cells) (.own (HN A B + 1))], HQ A L a d (B ++ [.front 0 0, .front l.length (fsz l.length 11)])) =
      if isS (tk L a) [125] = true then some (.exit 0, [.ptr A.length 0, .slice [] (.own (HN A B)), .slice (l.map XS.cells) (.own (HN A B + 1))], HQ A L a d (B ++ [.front 0 0, .front l.length (fsz l.length 11)]))
      else match st a d with
      | .bad e p a1 d1 => some (.pan (wrongV e p), [.ptr A.length 0, .slice [] (.own (HN A B)), .slice (l.map XS.cells) (.own (HN A B + 1))], HQ A L a1 d1 (B ++ [.front 0 0, .front l.length (fsz l.length 11)]))
      | .ok x a1 d1 => some (.normal, [.ptr A.length 0, .slice [] (.own (HN A B)), .slice ((l ++ [x]).map XS.cells) (.own (HN A B + 1))], HQ A L a1 d (B ++ [.front 0 0, .front (l ++ [x]).length 11])) := by
    simp -implicitDefEqProofs [m146_l0, ha, hB, h178]
    cases h1 : isS (tk L a) [125]
    · simp -implicitDefEqProofs [ha, hB, hs, hd]
      cases q : st a d with
      | bad e p a1 d1 => simp -implicitDefEqProofs [endR, htr, hsp]
      | ok x a1 d1 =>
        obtain ⟨g1, g2, g3⟩ := hg a d _ _ _ q ha
        have g3 : d = d1 := g3.symm
        subst g3
        have b1 := abuildSlice1 (zero := [.int .i64 0, .int .i64 0, .int .i64 0, .str [], .int .i64 0, .int .i64 0, .int .i64 0, .slice [] .nil, .slice [] .nil, .slice [] .nil, .bool false]) (h := HQ A L a1 d (B ++ [.front 0 0, .front l.length (fsz l.length 11)])) (XS.row.len x) rfl (XS.row.pure x) (XS.row.ok x)
        have b2 := HQ_app1 (A := A) (B := B) (L := L) (a := a1) (d := d) (C := [.front 0 0, .front l.length (fsz l.length 11), .front 1 11]) (k := 1) (rows := l.map XS.cells) (new := [x.cells]) (sz := 11) (by_ := 144) (sz' := fsz l.length 11) (t := .own (HN A B + 2)) (by simp) (by rw [List.length_map]; exact fsz_or _ _) (by simp) (by simp) (by simp; omega) (by simp; omega)
        simp only [List.length_map, List.length_singleton, List.set_cons_succ, List.set_cons_zero] at b2
        simp -implicitDefEqProofs [b1, b2, endR, htr, hsp]
    · simp -implicitDefEqProofs [endR, htr, hsp]
  rw [hfst]
  simp only [pStmts_eq]
  cases h1 : isS (tk L a) [125] with
  | true =>
    right
    exact ⟨_, by simp only [if_true]; rfl, by simp, by simp only [if_true]⟩
  | false =>
    simp only [Bool.false_eq_true, if_false]
    cases q : st a d with
    | bad e p a1 d1 =>
      right
      exact ⟨_, rfl, by simp, _, _, rfl⟩
    | ok x a1 d1 =>
      obtain ⟨g1, g2, g3⟩ := hg a d _ _ _ q ha
      have g3 : d = d1 := g3.symm
      subst g3
      left
      refine ⟨(l ++ [x], a1, m), ?_, ⟨g2, by simp; omega, by simp; omega⟩, by simp, fun r hr => hr⟩
      simp [fsz_succ]

theorem d146 {n : Nat} (hs : Does L (dk n) 182 [] sEnc (pStmt L (pBlock L n) n)) (hg : PGood L 1 (fun d => d) (pStmt L (pBlock L n) n)) : Does L (dk (n + 1)) 146 [] bkEnc (pBlock L (n + 1)) := by
  intro A B a d ha hd hB
  have h181 := d181 hL
  have h183 := d183 hL
  unfold Does at h181 h183
  have hd64 := hd.2
  refine evW_by (m146_eq _ _ _) ?_
  simp -implicitDefEqProofs [m146, pBlock, ha, hB, h181, hd64]
  cases s1 : isS (tk L a) [123]
  · simp -implicitDefEqProofs [hB]
  · have ha1 := isS_lt hK ha s1
    by_cases h64 : d = 64
    · simp -implicitDefEqProofs [hB, h64]
    · have hd1 := hd.up h64
      obtain ⟨r, h1, h2⟩ := d146_loop hL hs hg hB hd1 131073 [] (a + 1) ha1 (by omega) (Nat.zero_le _)
      simp only [List.map_nil, List.length_nil, fsz_zero] at h1
      simp -implicitDefEqProofs [hB, h64, h1]
      cases q : pStmts L (pStmt L (pBlock L n) n) 131073 [] (a + 1) (d + 1) with
      | bad e p a2 d2 =>
        rw [q] at h2
        obtain ⟨vs, C, rfl⟩ := h2
        simp -implicitDefEqProofs [hB]
      | ok l a2 d2 =>
        rw [q] at h2
        subst h2
        obtain ⟨g1, g2, g3⟩ := g_stmts hg _ _ _ _ _ _ _ q ha1
        have g3 : d2 = d + 1 := g3
        subst g3
        have h65 : d ≤ 64 := by omega
        simp -implicitDefEqProofs [hB, g2, h183, h65]
        cases s2 : isS (tk L a2) [125] <;> simp -implicitDefEqProofs [hB]

theorem bl_all : ∀ n, Does L (dk n) 146 [] bkEnc (pBlock L n)
  | 0 => fun A B a d ha hd => by have h1 := hd.1; have h2 := hd.2; omega
  | 1 => d146 hL hK (fun A B a d ha hd => by have h1 := hd.1; have h2 := hd.2; omega) (g_stmt hK (g_block hK 0) 0)
  | n + 2 => d146 hL hK (d182 hL hK (bl_all (n + 1)) (g_block hK (n + 1))) (g_stmt hK (g_block hK (n + 1)) (n + 1))

def XF.cells (f : XF) : List AVal := [.int .i64 (f.pos : Int), .str f.name, .slice (f.params.map XP.cells) .no, .bool f.has, .int .i64 (f.result.elem : Int), .int .i64 (f.result.len : Int), .int .i64 (f.result.label : Int), .slice (f.body.map XS.cells) .no]
def fEnc (f : XF) : AVal := .agg f.cells
attribute [simp] fEnc

omit hL hK in
theorem XF.row : RowOk XF.cells 8 := ⟨fun _ => rfl, fun _ => rfl, fun _ => rfl⟩

set_option maxHeartbeats 1000000 in
theorem d77 : Does L (fun d => d = 0) 77 [] fEnc (pFunc L) := by
  intro A B a d ha hd hB
  subst hd
  have h138 := d138 hL
  have h139 := d139 hL 1
  have h143 := d143 hL
  have h145 := d145 hL
  have h144 := fun l => d144 hL l
  have h146 := bl_all hL hK 65
  have hd0 : dk 65 0 := ⟨rfl, by omega⟩
  unfold Does at h138 h139 h143 h145 h144 h146
  simp only [Int.cast_ofNat_Int] at h139
  refine evW_by (m77_eq _ _ _) ?_
  simp -implicitDefEqProofs [m77, pFunc, ha, hB, h138, A_lt, A_lt0]
  cases s1 : isS (tk L a) [102, 110]
  · simp -implicitDefEqProofs [hB]
  · have ha1 := isS_lt hK ha s1
    simp -implicitDefEqProofs [hB, ha1, h139, A_lt, A_lt0]
    by_cases k1 : (tk L (a + 1)).kind = 1
    · have ha2 := kind_lt (k := 1) hK ha1 (by decide) k1
      simp -implicitDefEqProofs [hB, k1, ha2, h138, A_lt, A_lt0]
      cases s2 : isS (tk L (a + 1 + 1)) [40]
      · simp -implicitDefEqProofs [hB]
      · have ha3 := isS_lt hK ha2 s2
        have hB' : KB A (B ++ [.cells [.ptr A.length 0], .cells [.int .i64 0, .str [], .slice [] (.own (HN A B + 2)), .bool false, .int .i64 0, .int .i64 0, .int .i64 0, .slice [] (.own (HN A B + 3))], .front 0 0, .front 0 0,
          .cells [.int .i64 1, .int .i64 ((tk L (a + 1)).pos : Int), .int .i64 ((tk L (a + 1)).num : Int), .str (tk L (a + 1)).text],
          .cells [.int .i64 ((tk L (a + 1)).pos : Int), .str (tk L (a + 1)).text, .slice [] (.own (HN A B + 6)), .bool false, .int .i64 0, .int .i64 0, .int .i64 0, .slice [] (.own (HN A B + 7))], .front 0 0, .front 0 0]) := hB.app (by simp [A_lt])
        have h140 := d140 hL hK (one := pParam L) (d := 0) [41] (g_param hK) ha3 hB' Has.new (fun C a ha hB => c141 hL hK Has.new.app ha hB)
        simp -implicitDefEqProofs [hB, h140]
        cases q : pList L [41] (pParam L) (a + 1 + 1 + 1) 0 with
        | bad e p a4 d4 => simp -implicitDefEqProofs [hB]
        | ok ps a4 d4 =>
          obtain ⟨g1, g2, g3⟩ := g_list hK (g_param hK) _ _ _ _ _ q ha3
          have g3 : d4 = 0 := g3
          subst g3
          simp -implicitDefEqProofs [hB, g2, h138, A_lt, A_lt0]
          cases s3 : isS (tk L a4) [41]
          · simp -implicitDefEqProofs [hB]
          · have ha5 := isS_lt hK g2 s3
            simp -implicitDefEqProofs [hB, ha5, h143, A_lt, A_lt0]
            cases s4 : isS (tk L (a4 + 1)) [58]
            · simp -implicitDefEqProofs [hB, ha5, h146, hd0, A_lt, A_lt0]
              cases q2 : pBlock L 65 (a4 + 1) 0 with
              | bad e p a6 d6 => simp -implicitDefEqProofs [hB]
              | ok b a6 d6 => simp -implicitDefEqProofs [hB, XF.cells]
            · have ha6 := isS_lt hK ha5 s4
              simp -implicitDefEqProofs [hB, ha6, h145, A_lt, A_lt0]
              cases q3 : pLabel L (a4 + 1 + 1) 0 with
              | bad e p a7 d7 => simp -implicitDefEqProofs [hB]
              | ok lab a7 d7 =>
                obtain ⟨j1, j2, j3⟩ := g_label hK _ _ _ _ _ q3 ha6
                have j3 : d7 = 0 := j3
                subst j3
                simp -implicitDefEqProofs [hB, j2, h144, A_lt, A_lt0]
                cases q4 : pScalar L lab a7 0 with
                | bad e p a8 d8 => simp -implicitDefEqProofs [hB]
                | ok ty a8 d8 =>
                  obtain ⟨k1, k2, k3⟩ := g_scalar hK _ _ _ _ _ q4 j2
                  have k3 : d8 = 0 := k3
                  subst k3
                  simp -implicitDefEqProofs [hB, k2, h146, hd0, A_lt, A_lt0]
                  cases q2 : pBlock L 65 a8 0 with
                  | bad e p a6 d6 => simp -implicitDefEqProofs [hB]
                  | ok b a6 d6 => simp -implicitDefEqProofs [hB, XF.cells]
    · simp -implicitDefEqProofs [hB, k1]
end
end Go.Proofs.YtkeoalhglkfbkaaDoor

/-
  The parser: by the evaluator. No conditions.
-/
namespace Go.Proofs.YtkeoalhglkfbkaaDoor
open Go Hk

section
variable {x : XF} {n m : Nat} {h : Heap}
@[simp] theorem xf_len : x.cells.length = 8 := rfl
@[simp] theorem xf_build : abuildSlice 1 8 [.int .i64 0, .str [], .slice [] .nil, .bool false, .int .i64 0, .int .i64 0, .int .i64 0, .slice [] .nil] [(0, .agg x.cells)] h = some (.slice [x.cells] (.own h.length), h ++ [.front 1 8]) :=
  abuildSlice1 (XF.row.len x) rfl (XF.row.pure x) (XF.row.ok x)
end

/-- Parse's memory. -/
def hP (e p : Nat) (l : List XF) (n sz : Nat) (L : List Token) (a d : Nat) (C : List ABlk) : Heap :=
  .cells [.slice (l.map XF.cells) (.own 1)] :: .front n sz :: .cells [.int .i64 (e : Int), .int .i64 (p : Int)] :: PB L a d :: C

theorem pFuncs_eq {L : List Token} {m a d : Nat} {l : List XF} : pFuncs L (m + 1) l a d = if (tk L a).kind = 0 then .ok l a d else match pFunc L a d with
    | .bad e p a1 d1 => .bad e p a1 d1
    | .ok x a1 d1 => pFuncs L m (l ++ [x]) a1 d1 := by
  rw [pFuncs]
  simp only [pm_bind, PM.bind, pHere]
  by_cases h : (tk L a).kind = 0
  · simp [h, pm_pure]
  · simp only [h, if_false, PM.bind]
    cases pFunc L a d <;> rfl

section
variable {L : List Token} (hL : L.length ≤ 131072) (hK : TokOk L)
include hL hK

omit hL hK in
theorem hP_trunc {e p : Int} {rows : List (List AVal)} {n sz a d : Nat} {C : List ABlk} : trunc 4 (.cells [.slice rows (.own 1)] :: .front n sz :: .cells [.int .i64 e, .int .i64 p] :: PB L a d :: C) = some [.cells [.slice rows (.own 1)], .front n sz, .cells [.int .i64 e, .int .i64 p], PB L a d] := by
  simp [trunc, PB]

theorem d33_loop (e0 p0 : Nat) (m : Nat) (l : List XF) (a : Nat) (ha : a < L.length) (hm : L.length < a + m) (hl : l.length ≤ a) :
    ∃ r, lpW (m33_l0 KK 4) ([.ptr 0 0, .ptr 2 0, .ptr 3 0], hP e0 p0 l l.length (fsz l.length 8) L a 0 []) = some r ∧
      match pFuncs L m l a 0 with
      | .ok l' a' d' => r = (.exit 0, [.ptr 0 0, .ptr 2 0, .ptr 3 0], hP e0 p0 l' l'.length (fsz l'.length 8) L a' d' [])
      | .bad e p a' d' => ∃ l' : List XF, r = (.pan (wrongV e p), [.ptr 0 0, .ptr 2 0, .ptr 3 0], hP e0 p0 l' l'.length (fsz l'.length 8) L a' d' []) := by
  refine lpW_post (σ := List XF × Nat × Nat) (fun s => ([.ptr 0 0, .ptr 2 0, .ptr 3 0], hP e0 p0 s.1 s.1.length (fsz s.1.length 8) L s.2.1 0 []))
    (fun s => s.2.1 < L.length ∧ L.length < s.2.1 + s.2.2 ∧ s.1.length ≤ s.2.1) (fun s => s.2.2)
    (fun s r => match pFuncs L s.2.2 s.1 s.2.1 0 with
      | .ok l' a' d' => r = (.exit 0, [.ptr 0 0, .ptr 2 0, .ptr 3 0], hP e0 p0 l' l'.length (fsz l'.length 8) L a' d' [])
      | .bad e p a' d' => ∃ l' : List XF, r = (.pan (wrongV e p), [.ptr 0 0, .ptr 2 0, .ptr 3 0], hP e0 p0 l' l'.length (fsz l'.length 8) L a' d' [])) ?_ (l, a, m) ⟨ha, hm, hl⟩
  rintro ⟨l, a, m⟩ ⟨ha, hm, hl⟩
  simp only at ha hm hl
  obtain ⟨m, rfl⟩ : ∃ j, m = j + 1 := ⟨m - 1, by omega⟩
  have hKB : KB [.cells [.slice (l.map XF.cells) (.own 1)], .front l.length (fsz l.length 8), .cells [.int .i64 (e0 : Int), .int .i64 (p0 : Int)]] [] := ⟨fun n hn => by simp [HN] at hn ⊢; omega, fun n hn => by simp⟩
  have hKB2 : KB [.gone, .front l.length (fsz l.length 8), .cells [.int .i64 (e0 : Int), .int .i64 (p0 : Int)]] [] := ⟨fun n hn => by simp, fun n hn => by simp⟩
  have h76 := d76 (L := L) _ _ a 0 ha trivial hKB
  have h77 := d77 hL hK _ _ a 0 ha rfl hKB2
  simp only [pHere, res_ok, tEnc, HQ, List.length_cons, List.length_nil, List.cons_append, List.nil_append] at h76 h77
  have htr := fun e p rows n sz a d C => hP_trunc (L := L) (e := e) (p := p) (rows := rows) (n := n) (sz := sz) (a := a) (d := d) (C := C)
  have s1 : ∀ h, AVal.san 4 h (.ptr 0 0) = .ptr 0 0 := fun h => san_ptr_lt (by omega)
  have s2 : ∀ h, AVal.san 4 h (.ptr 2 0) = .ptr 2 0 := fun h => san_ptr_lt (by omega)
  have s3 : ∀ h, AVal.san 4 h (.ptr 3 0) = .ptr 3 0 := fun h => san_ptr_lt (by omega)
  have hfst : m33_l0 KK 4 ([.ptr 0 0, .ptr 2 0, .ptr 3 0], hP e0 p0 l l.length (fsz l.length 8) L a 0 []) =
      if (tk L a).kind = 0 then some (.exit 0, [.ptr 0 0, .ptr 2 0, .ptr 3 0], hP e0 p0 l l.length (fsz l.length 8) L a 0 [])
      else match pFunc L a 0 with
      | .bad e p a1 d1 => some (.pan (wrongV e p), [.ptr 0 0, .ptr 2 0, .ptr 3 0], hP e0 p0 l l.length (fsz l.length 8) L a1 d1 [])
      | .ok x a1 d1 => some (.normal, [.ptr 0 0, .ptr 2 0, .ptr 3 0], hP e0 p0 (l ++ [x]) (l ++ [x]).length 8 L a1 0 []) := by
    by_cases h0 : (tk L a).kind = 0
    · have h0' : ((tk L a).kind : Int) = 0 := by omega
      simp -implicitDefEqProofs [m33_l0, hP, h76, h0, endR, htr, s1, s2, s3]
    · have h0' : ¬ ((tk L a).kind : Int) = 0 := by omega
      simp -implicitDefEqProofs [m33_l0, hP, h76, h0, h0', h77]
      cases q : pFunc L a 0 with
      | bad e p a1 d1 => simp -implicitDefEqProofs [HQ, endR, htr, s1, s2, s3, hP]
      | ok x a1 d1 =>
        obtain ⟨g1, g2, g3⟩ := (g_func hK) _ _ _ _ _ q ha
        have g3 : d1 = 0 := g3
        subst g3
        have b2 : ∀ (u : List ABlk), aappend 8 104 (.cells [.slice (l.map XF.cells) (.own 1)] :: .front l.length (fsz l.length 8) :: u) (.slice (l.map XF.cells) (.own 1)) (.slice [x.cells] (.own 4)) =
            some (.slice (l.map XF.cells ++ [x.cells]) (.own 1), .cells [.slice (l.map XF.cells) (.own 1)] :: .front (l.length + 1) 8 :: u) := by
          intro u
          have hb1 : (l.length + 1) * 104 ≤ 140737488355328 := by omega
          have hb2 : l.length + 1 ≤ 140737488355328 := by omega
          have hf : fsz l.length 8 = 8 ∨ l = [] ∧ fsz l.length 8 = 0 := by
            rcases fsz_or l.length 8 with h | h
            · exact .inl h
            · exact .inr ⟨List.length_eq_zero_iff.1 h.1, h.2⟩
          simp [aappend, arowsS, hb1, hb2]
          exact fun h => hf.resolve_left h
        simp -implicitDefEqProofs [HQ, b2, endR, htr, s1, s2, s3, hP]
  rw [hfst]
  simp only [pFuncs_eq]
  by_cases h0 : (tk L a).kind = 0
  · right
    refine ⟨_, by simp only [h0, if_true]; rfl, by simp, ?_⟩
    simp only [h0, if_true]
  · simp only [h0, if_false]
    cases q : pFunc L a 0 with
    | bad e p a1 d1 => exact .inr ⟨_, rfl, by simp, l, rfl⟩
    | ok x a1 d1 =>
      obtain ⟨g1, g2, g3⟩ := (g_func hK) _ _ _ _ _ q ha
      have g3 : d1 = 0 := g3
      subst g3
      exact .inl ⟨(l ++ [x], a1, m), by simp [fsz_succ], ⟨g2, by simp; omega, by simp; omega⟩, by simp, fun r hr => hr⟩

omit hL hK in
/-- The call that was put off, where nothing is wrong. -/
theorem mR75_none {e0 p0 : Nat} {l : List XF} {n sz a d : Nat} {L : List Token} : mR75 KK [.ptr 0 0, .ptr 2 0] none (hP e0 p0 l n sz L a d []) = some (hP e0 p0 l n sz L a d []) := by
  simp [mR75, mR75', hP, PB, trunc, hide1, unhide1]
omit hL hK in
theorem mR75_some {e0 p0 : Nat} {l : List XF} {a d e p : Nat} {L : List Token} :
    ∃ t : Tok, (t = .nil ∨ t = .own 1) ∧ mR75 KK [.ptr 0 0, .ptr 2 0] (some (wrongV e p)) (hP e0 p0 l l.length (fsz l.length 8) L a d []) = some (.cells [.slice [] t] :: .front l.length (fsz l.length 8) :: .cells [.int .i64 (e : Int), .int .i64 (p : Int)] :: PB L a d :: []) := by
  cases l with
  | nil =>
    refine ⟨.own 1, .inr rfl, ?_⟩
    simp [mR75, mR75', hP, PB, trunc, fsz, hide1, unhide1]
  | cons x l =>
    refine ⟨.nil, .inl rfl, ?_⟩
    have hk : ∀ h r rs id, keep1 h (.slice (r :: rs) (.own id)) (.slice [] .nil) = .slice [] .nil := fun _ _ _ _ => (rfl)
    simp [mR75, mR75', hP, PB, trunc, hk, hide1, unhide1]
end

theorem lexS_ok {s : List UInt8} (h : (lexS s).2.1 = 0) : ∃ l : List Token, lexS s = (l ++ [⟨0, s.length, 0, []⟩], 0, 0) ∧ (∀ x ∈ l, Fact s x) ∧ l.Pairwise (fun x y => x.pos < y.pos) := by
  unfold lexS at h ⊢
  split at h
  · cases h
  · rename_i hs
    rw [if_neg hs]
    rcases lexFrom_facts s 0 [] with ⟨p, hp⟩ | ⟨l, hl, h1, h2⟩
    · rw [hp] at h; cases h
    · exact ⟨l, by simpa using hl, fun x hx => (h1 x hx).2, h2⟩
theorem tokOk_of {l : List Token} {n : Nat} : TokOk (l ++ [⟨0, n, 0, []⟩]) := by
  intro i t hi hk
  by_cases h : i < l.length
  · simp; omega
  · rw [List.getElem?_append_right (by omega)] at hi
    obtain ⟨h1, h2⟩ := List.getElem?_eq_some_iff.1 hi
    simp at h1
    have : i - l.length = 0 := by omega
    rw [← h2] at hk
    simp [this] at hk

theorem c33 (s : List UInt8) (h : Heap) : KK 33 [.str s] h = some (.ret (.tuple [.agg [.slice ((parseS s).1.map XF.cells) .no], .agg [.int .i64 ((parseS s).2.1 : Int), .int .i64 ((parseS s).2.2 : Int)]]), h) := by
  refine callP_pure rfl rfl (evW_by (m33_eq _ _ _) ?_)
  have h20 := c20 s
  unfold parseS
  by_cases he : (lexS s).2.1 = 0
  · have he' : (((lexS s).2.1 : Nat) : Int) = 0 := by omega
    obtain ⟨l0, hl0, _, _⟩ := lexS_ok he
    have hlen := lexS_len s
    have hL : (lexS s).1.length ≤ 131072 := by omega
    have hK : TokOk (lexS s).1 := by rw [hl0]; exact tokOk_of
    have h0 : 0 < (lexS s).1.length := by rw [hl0]; simp
    rw [if_pos he]
    obtain ⟨r, h1, h2⟩ := d33_loop hL hK 0 (lexS s).2.2 131073 [] 0 h0 (by omega) (Nat.zero_le _)
    simp only [hP, List.map_nil, List.length_nil, fsz_zero, PB, Int.cast_ofNat_Int] at h1
    simp -implicitDefEqProofs [m33, h20, he, h1]
    cases q : pFuncs (lexS s).1 131073 [] 0 0 with
    | ok l a d =>
      rw [q] at h2
      subst h2
      have h3 := mR75_none (e0 := 0) (p0 := 0) (l := l) (n := l.length) (sz := fsz l.length 8) (a := a) (d := d) (L := (lexS s).1)
      simp only [hP, PB, Int.cast_ofNat_Int] at h3
      simp -implicitDefEqProofs [hP, PB, h3, finR_zero]
    | bad e p a d =>
      rw [q] at h2
      obtain ⟨l, rfl⟩ := h2
      obtain ⟨t, ht, h3⟩ := mR75_some (e0 := 0) (p0 := (lexS s).2.2) (l := l) (a := a) (d := d) (e := e) (p := p) (L := (lexS s).1)
      simp only [hP, PB, Int.cast_ofNat_Int, wrongV] at h3
      rcases ht with rfl | rfl <;> simp -implicitDefEqProofs [hP, PB, h3, finR_zero]
  · have he' : ¬ (((lexS s).2.1 : Nat) : Int) = 0 := by omega
    rw [if_neg he]
    simp -implicitDefEqProofs [m33, h20, he, he', finR_zero]
end Go.Proofs.YtkeoalhglkfbkaaDoor

/-
  THE PLAIN LAW: a run of the parser looks at no token behind the one at which it ends; an error stands at the token at which it ends. No program in sight. No conditions.
-/
namespace Go.Proofs.YtkeoalhglkfbkaaDoor
open Go Hk

def Out.idx {α : Type} : Out α → Nat
  | .ok _ a _ => a
  | .bad _ _ a _ => a

/-- A run looks at the tokens up to where it ends alone; and its error's place is that token's. -/
structure Loc {α : Type} (x : List Token → PM α) : Prop where
  mono : ∀ L a d, a ≤ (x L a d).idx
  loc : ∀ L L' a d, (∀ i, i ≤ (x L a d).idx → tk L' i = tk L i) → x L' a d = x L a d
  place : ∀ L a d e p a' d', x L a d = .bad e p a' d' → p = (tk L a').pos ∧ e ≠ 0

theorem Loc.bind {α β : Type} {x : List Token → PM α} {f : List Token → α → PM β} (hx : Loc x) (hf : ∀ v, Loc fun L => f L v) : Loc fun L => x L >>= f L where
  mono := fun L a d => by
    have h1 := hx.mono L a d
    simp only [pm_bind, PM.bind]
    cases h : x L a d with
    | ok v a' d' => rw [h] at h1; exact Nat.le_trans h1 ((hf v).mono L a' d')
    | bad e p a' d' => rw [h] at h1; exact h1
  loc := fun L L' a d hh => by
    have h1 := hx.mono L a d
    have h2 := hx.loc L L' a d
    simp only [pm_bind, PM.bind] at hh ⊢
    cases h : x L a d with
    | ok v a' d' =>
      rw [h] at hh h1 h2
      simp only [] at hh
      have h3 := (hf v).mono L a' d'
      rw [h2 fun i hi => hh i (Nat.le_trans hi h3)]
      exact (hf v).loc L L' a' d' hh
    | bad e p a' d' =>
      rw [h] at hh h2
      rw [h2 hh]
  place := fun L a d e p a' d' hb => by
    simp only [pm_bind, PM.bind] at hb
    cases h : x L a d with
    | ok v a1 d1 => rw [h] at hb; exact (hf v).place L a1 d1 e p a' d' hb
    | bad e1 p1 a1 d1 => rw [h] at hb; cases hb; exact hx.place L a d _ _ _ _ h

theorem Loc.pure {α : Type} {v : α} : Loc fun _ => (Pure.pure v : PM α) :=
  ⟨fun _ _ _ => Nat.le_refl _, fun _ _ _ _ _ => rfl, fun _ _ _ _ _ _ _ h => by cases h⟩
theorem Loc.ite {α : Type} {c : Prop} [Decidable c] {x y : List Token → PM α} (hx : Loc x) (hy : Loc y) : Loc fun L => if c then x L else y L := by
  by_cases h : c
  · simp only [h, if_true]; exact hx
  · simp only [h, if_false]; exact hy
theorem Loc.opt {α : Type} {o : Option Nat} {x : List Token → PM α} {f : List Token → Nat → PM α} (hx : Loc x) (hf : ∀ k, Loc fun L => f L k) : Loc fun L => (match o with | none => x L | some k => f L k) := by
  cases o with
  | none => exact hx
  | some k => exact hf k

theorem l_fail {α : Type} {e : Nat} (he : e ≠ 0 := by decide) : Loc fun L => (pFail L e : PM α) :=
  ⟨fun _ _ _ => Nat.le_refl _, fun L L' a d h => by simp only [pFail]; rw [h a (Nat.le_refl _)], fun L a d e p a' d' h => by cases h; exact ⟨rfl, he⟩⟩
theorem l_here : Loc fun L => pHere L :=
  ⟨fun _ _ _ => Nat.le_refl _, fun L L' a d h => by simp only [pHere]; rw [h a (Nat.le_refl _)], fun _ _ _ _ _ _ _ h => by cases h⟩
theorem l_next : Loc fun _ => pNext := ⟨fun _ _ _ => Nat.le_succ _, fun _ _ _ _ _ => rfl, fun _ _ _ _ _ _ _ h => by cases h⟩
theorem l_up : Loc fun _ => pUp := ⟨fun _ _ _ => Nat.le_refl _, fun _ _ _ _ _ => rfl, fun _ _ _ _ _ _ _ h => by cases h⟩
theorem l_is {w : List UInt8} : Loc fun L => pIs L w :=
  ⟨fun _ _ _ => Nat.le_refl _, fun L L' a d h => by simp only [pIs]; rw [h a (Nat.le_refl _)], fun _ _ _ _ _ _ _ h => by cases h⟩
theorem l_maybe {w : List UInt8} : Loc fun L => pMaybe L w :=
  ⟨fun L a d => by simp only [pMaybe, Out.idx]; split <;> omega, fun L L' a d h => by
    have : a ≤ (pMaybe L w a d).idx := by simp only [pMaybe, Out.idx]; split <;> omega
    simp only [pMaybe]; rw [h a this], fun _ _ _ _ _ _ _ h => by cases h⟩
/-- What looks at the next token alone, and takes it or fails there. -/
theorem Loc.one {α : Type} {x : List Token → PM α} (f : Token → Nat → Nat → Option (α × Nat × Nat)) (g : Token → Nat → Nat → Nat) (hg : ∀ t a d, g t a d ≠ 0) (hf : ∀ t a d v a' d', f t a d = some (v, a', d') → a ≤ a')
    (hx : ∀ L a d, x L a d = match f (tk L a) a d with | some (v, a', d') => .ok v a' d' | none => .bad (g (tk L a) a d) (tk L a).pos a d) : Loc x := by
  have hm : ∀ L a d, a ≤ (x L a d).idx := fun L a d => by
    rw [hx]
    cases h : f (tk L a) a d with
    | none => exact Nat.le_refl _
    | some y => obtain ⟨v, a', d'⟩ := y; exact hf _ _ _ _ _ _ h
  refine ⟨hm, fun L L' a d h => ?_, fun L a d e p a' d' h => ?_⟩
  · rw [hx, hx, h a (hm L a d)]
  · rw [hx] at h
    split at h
    · cases h
    · cases h; exact ⟨rfl, hg _ _ _⟩
theorem l_take {w : List UInt8} : Loc fun L => pTake L w :=
  Loc.one (fun t a d => if isS t w then some ((), a + 1, d) else none) (fun _ _ _ => 10) (fun _ _ _ => by decide) (fun t a d v a' d' h => by split at h <;> simp at h; omega) fun L a d => by
    simp only [pTake]; cases isS (tk L a) w <;> rfl
theorem l_kind {k : Nat} : Loc fun L => pKind L k :=
  Loc.one (fun t a d => if t.kind = k then some (t, a + 1, d) else none) (fun _ _ _ => 10) (fun _ _ _ => by decide) (fun t a d v a' d' h => by split at h <;> simp at h; omega) fun L a d => by
    simp only [pKind]; by_cases h : (tk L a).kind = k <;> simp [h]
theorem l_open {w : List UInt8} : Loc fun L => pOpen L w :=
  Loc.one (fun t a d => if isS t w then (if d = 64 then none else some ((), a + 1, d + 1)) else none) (fun t _ d => if isS t w then 11 else 10) (fun t _ d => by split <;> decide) (fun t a d v a' d' h => by
    split at h
    · split at h <;> simp at h; omega
    · cases h) fun L a d => by
    simp only [pOpen]; cases isS (tk L a) w <;> by_cases h : d = 64 <;> simp [h]
theorem l_shut {w : List UInt8} : Loc fun L => pShut L w :=
  Loc.one (fun t a d => if isS t w then some ((), a + 1, d - 1) else none) (fun _ _ _ => 10) (fun _ _ _ => by decide) (fun t a d v a' d' h => by split at h <;> simp at h; omega) fun L a d => by
    simp only [pShut]; cases isS (tk L a) w <;> rfl
theorem l_label : Loc fun L => pLabel L :=
  Loc.one (fun t a d => if isS t secS then some (1, a + 1, d) else if isS t pubS then some (0, a + 1, d) else none) (fun _ _ _ => 10) (fun _ _ _ => by decide) (fun t a d v a' d' h => by
    split at h
    · simp at h; omega
    · split at h <;> simp at h; omega) fun L a d => by
    simp only [pLabel]; cases isS (tk L a) secS <;> cases isS (tk L a) pubS <;> rfl
theorem l_scalar {l : Nat} : Loc fun L => pScalar L l :=
  Loc.one (fun t a d => if isS t maskS then some (⟨1, 0, l⟩, a + 1, d) else if isS t u32S then some (⟨0, 0, l⟩, a + 1, d) else none) (fun _ _ _ => 10) (fun _ _ _ => by decide) (fun t a d v a' d' h => by
    split at h
    · simp at h; omega
    · split at h <;> simp at h; omega) fun L a d => by
    simp only [pScalar]; cases isS (tk L a) maskS <;> cases isS (tk L a) u32S <;> rfl

theorem l_many : Loc fun L => pMany L :=
  l_take.bind fun _ => l_here.bind fun t => Loc.ite l_fail (l_kind.bind fun _ => l_take.bind fun _ => Loc.pure)
theorem l_kinds {l : Nat} : Loc fun L => pKinds L l :=
  l_maybe.bind fun _ => Loc.ite (l_many.bind fun _ => Loc.pure) (l_scalar.bind fun t => Loc.ite (l_is.bind fun _ => Loc.ite (l_many.bind fun _ => Loc.pure) Loc.pure) Loc.pure)
theorem l_param : Loc fun L => pParam L :=
  l_maybe.bind fun _ => l_label.bind fun _ => l_kind.bind fun _ => l_take.bind fun _ => l_kinds.bind fun _ => Loc.pure
theorem l_more {α : Type} {one : List Token → PM α} (h : Loc one) : ∀ (n : Nat) (l : List α), Loc fun L => pMore L (one L) n l
  | 0, _ => l_fail
  | n + 1, l => h.bind fun x => l_maybe.bind fun _ => Loc.ite (l_more h n _) Loc.pure
theorem l_list {α : Type} {one : List Token → PM α} {w : List UInt8} (h : Loc one) : Loc fun L => pList L w (one L) :=
  l_is.bind fun _ => Loc.ite Loc.pure (l_more h _ _)

section
variable {ex un : List Token → PM XE} (he : Loc ex) (hu : Loc un)
include he
theorem l_index : Loc fun L => pIndex L (ex L) := l_open.bind fun _ => he.bind fun _ => l_shut.bind fun _ => Loc.pure
theorem l_call {t : Token} : Loc fun L => pCall L (ex L) t := l_open.bind fun _ => (l_list he).bind fun _ => l_shut.bind fun _ => Loc.pure
theorem l_args : ∀ (n : Nat) (b : Bool) (l : List XE), Loc fun L => pArgs L (ex L) n b l
  | 0, _, _ => Loc.pure
  | n + 1, b, l => by
    have h1 : ∀ _ : Unit, Loc fun L => (do let x ← ex L; pArgs L (ex L) n false (l ++ [x]) : PM (List XE)) := fun _ => he.bind fun _ => l_args n _ _
    cases b
    · exact l_take.bind fun u => h1 u
    · exact Loc.bind (x := fun _ => (Pure.pure PUnit.unit : PM PUnit)) Loc.pure fun u => h1 u
theorem l_made {kind many : Nat} {number : Bool} : Loc fun L => pMade L (ex L) kind many number :=
  l_here.bind fun _ => l_next.bind fun _ => l_open.bind fun _ => (l_args he _ _ _).bind fun _ =>
    Loc.ite (l_take.bind fun _ => l_kind.bind fun _ => l_shut.bind fun _ => Loc.pure) (l_shut.bind fun _ => Loc.pure)
theorem l_primary : Loc fun L => pPrimary L (ex L) :=
  l_here.bind fun _ => Loc.ite (l_next.bind fun _ => Loc.pure) (Loc.ite (l_open.bind fun _ => he.bind fun _ => l_shut.bind fun _ => Loc.pure) (Loc.ite (l_made he) (Loc.ite (l_made he) (Loc.ite (l_made he) (Loc.ite (l_made he) (Loc.ite (l_made he)
    (l_kind.bind fun _ => l_is.bind fun _ => Loc.ite (l_call he) (l_is.bind fun _ => Loc.ite ((l_index he).bind fun _ => Loc.pure) Loc.pure))))))))
include hu
theorem l_unary : Loc fun L => pUnary L (ex L) (un L) := by
  have hs : ∀ kind, Loc fun L => pSign L (un L) kind := fun kind => l_here.bind fun _ => l_open.bind fun _ => hu.bind fun _ => l_up.bind fun _ => Loc.pure
  exact l_here.bind fun _ => Loc.ite (hs _) (Loc.ite (hs _) (Loc.ite (hs _) (l_primary he)))
end
theorem l_join {next : List Token → PM XE} (hn : Loc next) (k : Nat) : ∀ (n : Nat) (x : XE), Loc fun L => pJoin L (next L) k n x
  | 0, _ => l_fail
  | n + 1, x => l_here.bind fun t => Loc.opt (o := signOf t k) Loc.pure fun kind => l_next.bind fun _ => Loc.ite (l_kind.bind fun _ => l_join hn k n _) (hn.bind fun _ => l_join hn k n _)
theorem l_chain {un : List Token → PM XE} (hu : Loc un) : ∀ j, Loc fun L => pChain L (un L) j
  | 0 => hu
  | j + 1 => (l_chain hu j).bind fun _ => l_join (l_chain hu j) _ _ _
theorem l_expr {un : List Token → PM XE} (hu : Loc un) : Loc fun L => pExpr L (un L) :=
  (l_chain hu 6).bind fun _ => l_here.bind fun t => Loc.opt (o := signOf t 0) Loc.pure fun _ => l_next.bind fun _ => (l_chain hu 6).bind fun _ => Loc.pure
theorem l_un : ∀ n, Loc fun L => pUn L n
  | 0 => l_fail
  | n + 1 => l_unary (l_expr (l_un n)) (l_un n)
theorem l_ex (n : Nat) : Loc fun L => pEx L n := l_expr (l_un n)
theorem l_end (n : Nat) : Loc fun L => pEnd L n := (l_ex n).bind fun _ => l_take.bind fun _ => Loc.pure
theorem l_named (n pos : Nat) : Loc fun L => pNamed L n pos :=
  l_kind.bind fun _ => l_is.bind fun _ => Loc.ite ((l_call (l_ex _)).bind fun _ => l_take.bind fun _ => Loc.pure)
    (l_is.bind fun _ => Loc.ite ((l_index (l_ex _)).bind fun _ => l_take.bind fun _ => (l_end _).bind fun _ => Loc.pure) (l_take.bind fun _ => (l_end _).bind fun _ => Loc.pure))
theorem l_stmt {block : List Token → PM (List XS)} (hb : Loc block) (n : Nat) : Loc fun L => pStmt L (block L) n :=
  l_here.bind fun _ => l_maybe.bind fun _ => Loc.ite (l_kind.bind fun _ => l_take.bind fun _ => (l_end _).bind fun _ => Loc.pure)
    (l_maybe.bind fun _ => Loc.ite (l_label.bind fun _ => l_kind.bind fun _ => l_take.bind fun _ => l_kinds.bind fun _ => l_take.bind fun _ => Loc.pure)
    (l_maybe.bind fun _ => Loc.ite ((l_ex n).bind fun _ => hb.bind fun _ => l_maybe.bind fun _ => Loc.ite (hb.bind fun _ => Loc.pure) Loc.pure)
    (l_maybe.bind fun _ => Loc.ite (l_kind.bind fun _ => l_take.bind fun _ => (l_ex n).bind fun _ => l_take.bind fun _ => l_kind.bind fun _ => hb.bind fun _ => Loc.pure)
    (l_maybe.bind fun _ => Loc.ite ((l_end n).bind fun _ => Loc.pure) (l_named _ _)))))
theorem l_stmts {stmt : List Token → PM XS} (hs : Loc stmt) : ∀ (m : Nat) (l : List XS), Loc fun L => pStmts L (stmt L) m l
  | 0, _ => l_fail
  | m + 1, l => l_is.bind fun _ => Loc.ite Loc.pure (hs.bind fun _ => l_stmts hs m _)
theorem l_block : ∀ n, Loc fun L => pBlock L n
  | 0 => l_fail
  | n + 1 => l_open.bind fun _ => (l_stmts (l_stmt (l_block n) n) _ _).bind fun _ => l_shut.bind fun _ => Loc.pure
theorem l_func : Loc fun L => pFunc L :=
  l_take.bind fun _ => l_kind.bind fun _ => l_take.bind fun _ => (l_list l_param).bind fun _ => l_take.bind fun _ => l_maybe.bind fun _ =>
    Loc.ite (l_label.bind fun _ => l_scalar.bind fun _ => (l_block _).bind fun _ => Loc.pure) ((l_block _).bind fun _ => Loc.pure)
theorem l_funcs : ∀ (m : Nat) (l : List XF), Loc fun L => pFuncs L m l
  | 0, _ => l_fail
  | m + 1, l => l_here.bind fun _ => Loc.ite Loc.pure (l_func.bind fun _ => l_funcs m _)
end Go.Proofs.YtkeoalhglkfbkaaDoor

/-
  THE PLAIN LAW: a text that is cut at a blank or a line's end has the tokens ahead of it. No program in sight. No conditions.
-/
namespace Go.Proofs.YtkeoalhglkfbkaaDoor
open Go Hk

theorem skip_idem (s : List UInt8) (a : Nat) : skipTo s (skipTo s a) = skipTo s a := by
  fun_induction skipTo s a with
  | case1 a h1 h2 ih => exact ih
  | case2 a h1 h2 h3 ih => exact ih
  | case3 a h1 h2 h3 => rw [skipTo, dif_pos h1, if_neg h2, if_neg h3]
  | case4 a h => rw [skipTo, dif_neg h]

section
variable {c : UInt8} (hc : c = 10 ∨ c = 32)
include hc

theorem runOf_cut (t : List UInt8) : ∀ d : List UInt8, runOf (d ++ c :: t) = runOf d
  | [] => by
    have : isWord c = false := by rcases hc with rfl | rfl <;> decide
    simp [runOf, List.takeWhile_cons, this]
  | b :: d => by
    have ih := runOf_cut t d
    unfold runOf at ih ⊢
    by_cases h : isWord b = true
    · simp [List.takeWhile_cons, h, ih]
    · simp [List.takeWhile_cons, h]
theorem two_cut {d t : List UInt8} (hd : d ≠ []) : (d ++ c :: t).take 2 = [47, 47] ↔ d.take 2 = [47, 47] := by
  match d, hd with
  | [b], _ => rcases hc with rfl | rfl <;> simp
  | b :: c :: r, _ => simp
theorem sign_cut {d t : List UInt8} (hd : d ≠ []) : signFrom signsT (d ++ c :: t) = signFrom signsT d := by
  rw [signFrom_eq, signFrom_eq]
  match d, hd with
  | [b], _ =>
    have h1 : ¬ [b, c] ∈ twosT := by rcases hc with rfl | rfl <;> simp [twosT, signsT]
    have h2 : ¬ [b] ∈ twosT := by simp [twosT, signsT]
    by_cases h3 : [b] ∈ onesT <;> simp [h1, h2, h3]
  | b :: c :: r, _ => by_cases h1 : [b, c] ∈ twosT <;> by_cases h3 : [b] ∈ onesT <;> simp [h1, h3]
theorem oneS_cut {d t : List UInt8} (hd : d ≠ []) (a : Nat) : oneS (d ++ c :: t) a = oneS d a := by
  have h1 := runOf_cut hc t d
  have h2 := sign_cut hc (t := t) hd
  match d, hd with
  | b :: r, _ =>
    simp only [List.cons_append] at h1 h2 ⊢
    simp only [oneS, h1, h2]
omit hc in
/-- A comment that ends ahead of the cut ends there; any other one goes on behind it. -/
theorem lineLen_cut (t : List UInt8) : ∀ d : List UInt8, lineLen d ≤ lineLen (d ++ t) ∧ (lineLen d < d.length → lineLen (d ++ t) = lineLen d)
  | [] => by simp [lineLen]
  | b :: d => by
    have ih := lineLen_cut t d
    unfold lineLen at ih ⊢
    by_cases h : b = 10
    · subst h; simp [List.takeWhile_cons]
    · simp [List.takeWhile_cons, h] at ih ⊢
      exact ih

theorem skip_cut (s t : List UInt8) (a : Nat) (ha : a ≤ s.length) :
    (skipTo s a < s.length → skipTo (s ++ c :: t) a = skipTo s a) ∧ (¬ skipTo s a < s.length → s.length ≤ skipTo (s ++ c :: t) a) := by
  induction hm : s.length - a using Nat.strongRecOn generalizing a with
  | _ m ih =>
    have hlen : (s ++ c :: t).length = s.length + (t.length + 1) := by simp
    by_cases hlt : a < s.length
    · have hb : a < (s ++ c :: t).length := by omega
      have hg : (s ++ c :: t)[a] = s[a] := List.getElem_append_left hlt
      have hdr : (s ++ c :: t).drop a = s.drop a ++ c :: t := List.drop_append_of_le_length ha
      rw [skipTo, dif_pos hlt, skipTo.eq_1 (s ++ c :: t) a, dif_pos hb, hg]
      have hd : s.drop a ≠ [] := by intro h; have := congrArg List.length h; simp at this; omega
      have h2 : ((s ++ c :: t).drop a).take 2 = [47, 47] ↔ (s.drop a).take 2 = [47, 47] := by
        rw [hdr]; exact two_cut hc hd
      by_cases h1 : isBlank s[a] = true
      · rw [if_pos h1, if_pos h1]
        exact ih (s.length - (a + 1)) (by omega) (a + 1) (by omega) rfl
      · rw [if_neg h1, if_neg h1]
        by_cases h3 : (s.drop a).take 2 = [47, 47]
        · rw [if_pos h3, if_pos (h2.2 h3), hdr]
          have h4 := lineLen_le (s.drop a)
          have h5 := line_two h3
          obtain ⟨k1, k2⟩ := lineLen_cut (c :: t) (s.drop a)
          simp only [List.length_drop] at h4 k2
          by_cases h6 : lineLen (s.drop a) < s.length - a
          · rw [k2 h6]
            exact ih (s.length - (a + max 1 (lineLen (s.drop a)))) (by omega) _ (by omega) rfl
          · -- the comment goes on to the cut
            have he : a + max 1 (lineLen (s.drop a)) = s.length := by omega
            have h0 : skipTo s s.length = s.length := by rw [skipTo, dif_neg (by omega)]
            rw [he, h0]
            refine ⟨fun h => absurd h (by omega), fun _ => ?_⟩
            have := skipTo_ge (s ++ c :: t) (a + max 1 (lineLen (s.drop a ++ c :: t)))
            omega
        · rw [if_neg h3, if_neg (fun h => h3 (h2.1 h))]
          exact ⟨fun _ => rfl, fun h => absurd hlt h⟩
    · have he : a = s.length := by omega
      subst he
      have h0 : skipTo s s.length = s.length := by rw [skipTo, dif_neg hlt]
      rw [h0]
      exact ⟨fun h => absurd h (by omega), fun _ => skipTo_ge _ _⟩

theorem lex_cut (s t : List UInt8) (a : Nat) (ha : a ≤ s.length) :
    (∃ p, ∀ out, lexFrom (s ++ c :: t) a out = ([], 9, p)) ∨
    (∃ l b, s.length ≤ b ∧ (∀ out, lexFrom s a out = (out ++ l ++ [⟨0, s.length, 0, []⟩], 0, 0)) ∧ ∀ out, lexFrom (s ++ c :: t) a out = lexFrom (s ++ c :: t) b (out ++ l)) := by
  induction hm : s.length - a using Nat.strongRecOn generalizing a with
  | _ m ih =>
    have hlen : (s ++ c :: t).length = s.length + (t.length + 1) := by simp
    obtain ⟨k1, k2⟩ := skip_cut hc s t a ha
    have hge := skipTo_ge s a
    by_cases hlt : skipTo s a < s.length
    · have hS := k1 hlt
      have hd : s.drop (skipTo s a) ≠ [] := by intro h; have := congrArg List.length h; simp at this; omega
      have ho : oneS ((s ++ c :: t).drop (skipTo s a)) (skipTo s a) = oneS (s.drop (skipTo s a)) (skipTo s a) := by rw [List.drop_append_of_le_length (Nat.le_of_lt hlt)]; exact oneS_cut hc hd _
      cases h3 : oneS (s.drop (skipTo s a)) (skipTo s a) with
      | none =>
        left
        exact ⟨skipTo s a, fun out => lex_bad hS (by omega) (ho.trans h3)⟩
      | some x =>
        obtain ⟨y, n⟩ := x
        have hp := oneS_pos h3
        simp only [List.length_drop] at hp
        rcases ih (s.length - (skipTo s a + max 1 n)) (by omega) (skipTo s a + max 1 n) (by omega) rfl with ⟨p, h⟩ | ⟨l, b, hb, h, h'⟩
        · left
          exact ⟨p, fun out => (lex_step hS (by omega) (ho.trans h3) rfl).trans (h _)⟩
        · right
          refine ⟨y :: l, b, hb, fun out => (lex_step rfl hlt h3 rfl).trans ((h _).trans (by simp)), fun out => (lex_step hS (by omega) (ho.trans h3) rfl).trans ((h' _).trans (by simp))⟩
    · right
      refine ⟨[], skipTo (s ++ c :: t) a, k2 hlt, fun out => (lex_end hlt).trans (by simp), fun out => ?_⟩
      have hi : skipTo (s ++ c :: t) (skipTo (s ++ c :: t) a) = skipTo (s ++ c :: t) a := by
        exact skip_idem _ _
      rw [lexFrom.eq_1 _ a, lexFrom.eq_1 _ (skipTo (s ++ c :: t) a), hi]
      simp only [List.append_nil]
end

/-- A text that is right, cut ahead of a blank or a line's end. -/
theorem lexS_cut {c : UInt8} (hc : c = 10 ∨ c = 32) (s t : List UInt8) {L : List Token} (hL : lexS (s ++ c :: t) = (L, 0, 0)) :
    ∃ l r, lexS s = (l ++ [⟨0, s.length, 0, []⟩], 0, 0) ∧ L = l ++ r ∧ ∀ x ∈ r, s.length ≤ x.pos := by
  unfold lexS at hL ⊢
  split at hL
  · cases hL
  · rename_i hs
    rw [if_neg (by simp at hs; omega)]
    rcases lex_cut hc s t 0 (Nat.zero_le _) with ⟨p, h⟩ | ⟨l, b, hb, h1, h2⟩
    · rw [h] at hL; cases hL
    · rw [h2] at hL
      rcases lexFrom_facts (s ++ c :: t) b ([] ++ l) with ⟨p, h⟩ | ⟨r, hr, h3, h4⟩
      · rw [h] at hL; cases hL
      · rw [hr] at hL
        refine ⟨l, r ++ [⟨0, (s ++ c :: t).length, 0, []⟩], by simpa using h1 [], ?_, fun x hx => ?_⟩
        · simp only [Prod.mk.injEq] at hL
          rw [← hL.1]; simp
        · rcases List.mem_append.1 hx with hx | hx
          · have := (h3 x hx).1; omega
          · simp at hx; subst hx; simp

/-! ### The tokens of a given text, by running -/
def skipF : Nat → List UInt8 → Nat → Option Nat
  | 0, _, _ => none
  | n + 1, s, a => if h : a < s.length then
      (if isBlank s[a] then skipF n s (a + 1) else if (s.drop a).take 2 = [47, 47] then skipF n s (a + max 1 (lineLen (s.drop a))) else some a) else some a
theorem skipF_eq : ∀ (n : Nat) (s : List UInt8) (a b : Nat), skipF n s a = some b → skipTo s a = b
  | 0, _, _, _, h => by cases h
  | n + 1, s, a, b, h => by
    unfold skipF at h
    rw [skipTo]
    split at h
    · rename_i hlt
      rw [dif_pos hlt]
      split at h
      · rename_i h1; rw [if_pos h1]; exact skipF_eq n s _ b h
      · rename_i h1
        rw [if_neg h1]
        split at h
        · rename_i h2; rw [if_pos h2]; exact skipF_eq n s _ b h
        · rename_i h2; rw [if_neg h2]; cases h; rfl
    · rename_i hlt; rw [dif_neg hlt]; cases h; rfl
def lexF : Nat → List UInt8 → Nat → List Token → Option (List Token × Nat × Nat)
  | 0, _, _, _ => none
  | n + 1, s, a, out => match skipF (s.length + 1) s a with
    | none => none
    | some b => if b < s.length then (match oneS (s.drop b) b with
        | none => some ([], 9, b)
        | some (t, k) => lexF n s (b + max 1 k) (out ++ [t])) else some (out ++ [⟨0, s.length, 0, []⟩], 0, 0)
theorem lexF_eq : ∀ (n : Nat) (s : List UInt8) (a : Nat) (out : List Token) (r : List Token × Nat × Nat), lexF n s a out = some r → lexFrom s a out = r
  | 0, _, _, _, _, h => by cases h
  | n + 1, s, a, out, r, h => by
    unfold lexF at h
    split at h
    · cases h
    · rename_i b hb
      have hs := skipF_eq _ _ _ _ hb
      split at h
      · rename_i hlt
        split at h
        · rename_i h1; cases h; exact lex_bad hs hlt h1
        · rename_i t k h1; exact (lex_step hs hlt h1 rfl).trans (lexF_eq n s _ _ r h)
      · rename_i hlt
        cases h
        exact lex_end (by rw [hs]; exact hlt)
theorem lexS_run {s : List UInt8} {r : List Token × Nat × Nat} (hs : s.length ≤ 65536) (h : lexF (s.length + 1) s 0 [] = some r) : lexS s = r := by
  unfold lexS
  rw [if_neg (by omega)]
  exact lexF_eq _ _ _ _ _ h
end Go.Proofs.YtkeoalhglkfbkaaDoor

/-
  The document's examples, by the evaluator. No conditions.
-/
namespace Go.Proofs.YtkeoalhglkfbkaaDoor
open Go Hk

def exA : List UInt8 := [102, 110, 32, 102, 40, 41, 32, 123, 32, 120, 32, 61, 32, 49, 32, 43, 32, 50, 32, 42, 32, 121, 59, 32, 125]
def exB : List UInt8 := [102, 110, 32, 102, 40, 41, 32, 123, 32, 120, 32, 61, 32, 97, 32, 60, 32, 98, 32, 60, 32, 99, 59, 32, 125]
def tkA : List Token := [⟨3, 0, 0, [102, 110]⟩, ⟨1, 3, 0, [102]⟩, ⟨4, 4, 0, [40]⟩, ⟨4, 5, 0, [41]⟩, ⟨4, 7, 0, [123]⟩, ⟨1, 9, 0, [120]⟩, ⟨4, 11, 0, [61]⟩, ⟨2, 13, 1, []⟩, ⟨4, 15, 0, [43]⟩, ⟨2, 17, 2, []⟩, ⟨4, 19, 0, [42]⟩, ⟨1, 21, 0, [121]⟩, ⟨4, 22, 0, [59]⟩, ⟨4, 24, 0, [125]⟩, ⟨0, 25, 0, []⟩]
def tkB : List Token := [⟨3, 0, 0, [102, 110]⟩, ⟨1, 3, 0, [102]⟩, ⟨4, 4, 0, [40]⟩, ⟨4, 5, 0, [41]⟩, ⟨4, 7, 0, [123]⟩, ⟨1, 9, 0, [120]⟩, ⟨4, 11, 0, [61]⟩, ⟨1, 13, 0, [97]⟩, ⟨4, 15, 0, [60]⟩, ⟨1, 17, 0, [98]⟩, ⟨4, 19, 0, [60]⟩, ⟨1, 21, 0, [99]⟩, ⟨4, 22, 0, [59]⟩, ⟨4, 24, 0, [125]⟩, ⟨0, 25, 0, []⟩]
def fA : XF := ⟨3, [102], [], false, ⟨0, 0, 0⟩, [.mk 3 9 0 [120] ⟨0, 0, 0⟩ [.mk 8 15 0 [] [.mk 1 13 1 [] [], .mk 10 19 0 [] [.mk 1 17 2 [] [], .mk 2 21 0 [121] []]]] [] [] false]⟩
theorem lexA : lexS exA = (tkA, 0, 0) := lexS_run (by decide) (by kernel_rfl)
theorem lexB : lexS exB = (tkB, 0, 0) := lexS_run (by decide) (by kernel_rfl)
theorem funsA : pFuncs tkA 131073 [] 0 0 = .ok [fA] 14 0 := by kernel_rfl
theorem funsB : pFuncs tkB 131073 [] 0 0 = .bad 10 19 10 1 := by kernel_rfl
theorem parseA : parseS exA = ([fA], 0, 0) := by
  unfold parseS; rw [lexA]; simp only [if_true, funsA]
theorem parseB : parseS exB = ([], 10, 19) := by
  unfold parseS; rw [lexB]; simp only [if_true, funsB]

theorem c36 (h : Heap) : KK 36 [] h = some (.ret (.bool true), h) := by
  refine callP_pure rfl rfl (evW_by (m36_eq _ _) ?_)
  have h1 := fun h => c33 exA h
  have h2 := fun h => c33 exB h
  rw [parseA] at h1
  rw [parseB] at h2
  simp only [exA, exB, List.map_cons, List.map_nil, Int.cast_ofNat_Int, fA, XF.cells] at h1 h2
  simp -implicitDefEqProofs [m36, h1, h2, aeqAgg, aeqAll, aeqK, aindexSl_lit, XS.cells, XE.cells, XE.rows, finR_zero]
end Go.Proofs.YtkeoalhglkfbkaaDoor

/-
  THE PLAIN LAW: a run of the parser ends at one of the tokens. No program in sight. No conditions.
-/
namespace Go.Proofs.YtkeoalhglkfbkaaDoor
open Go Hk

def InAt (L : List Token) {α : Type} (x : PM α) (a : Nat) : Prop := ∀ d, (x a d).idx < L.length
def PIn (L : List Token) {α : Type} (x : PM α) : Prop := ∀ a, a < L.length → InAt L x a

section
variable {L : List Token} {α β : Type}
theorem PIn.bind {x : PM α} {f : α → PM β} (hx : PIn L x) (hf : ∀ v, PIn L (f v)) : PIn L (x >>= f) := by
  intro a ha d
  have h1 := hx a ha d
  simp only [pm_bind, PM.bind]
  cases h : x a d with
  | ok v a' d' => rw [h] at h1; exact hf v a' h1 d'
  | bad e p a' d' => rw [h] at h1; exact h1
theorem PIn.pure {v : α} : PIn L (Pure.pure v : PM α) := fun _ ha _ => ha
theorem PIn.fail {e : Nat} : PIn L (pFail L e : PM α) := fun _ ha _ => ha
theorem PIn.ite {c : Prop} [Decidable c] {x y : PM α} (hx : PIn L x) (hy : PIn L y) : PIn L (if c then x else y) := by
  split
  · exact hx
  · exact hy
theorem InAt.ite {c : Prop} [Decidable c] {x y : PM α} {a : Nat} (hx : c → InAt L x a) (hy : ¬ c → InAt L y a) : InAt L (if c then x else y) a := by
  split
  · rename_i h; exact hx h
  · rename_i h; exact hy h
theorem InAt.here {f : Token → PM α} {a : Nat} (h : InAt L (f (tk L a)) a) : InAt L (pHere L >>= f) a := fun d => h d
theorem InAt.next {f : Unit → PM α} {a : Nat} (ha : a + 1 < L.length) (h : PIn L (f ())) : InAt L (pNext >>= f) a := fun d => h (a + 1) ha d
theorem i_here : PIn L (pHere L) := fun _ ha _ => ha
theorem i_is {w : List UInt8} : PIn L (pIs L w) := fun _ ha _ => ha
theorem i_up : PIn L pUp := fun _ ha _ => ha
variable (hL : TokOk L)
include hL
theorem i_maybe {w : List UInt8} : PIn L (pMaybe L w) := by
  intro a ha d
  simp only [pMaybe, Out.idx]
  split
  · rename_i h; exact isS_lt hL ha h
  · exact ha
theorem i_take {w : List UInt8} : PIn L (pTake L w) := by
  intro a ha d
  simp only [pTake]
  split
  · rename_i h; exact isS_lt hL ha h
  · exact ha
theorem i_kind {k : Nat} (hk : k ≠ 0) : PIn L (pKind L k) := by
  intro a ha d
  simp only [pKind]
  split
  · rename_i h; exact kind_lt hL ha hk h
  · exact ha
theorem i_open {w : List UInt8} : PIn L (pOpen L w) := by
  intro a ha d
  simp only [pOpen]
  split
  · rename_i h
    split
    · exact ha
    · exact isS_lt hL ha h
  · exact ha
theorem i_shut {w : List UInt8} : PIn L (pShut L w) := by
  intro a ha d
  simp only [pShut]
  split
  · rename_i h; exact isS_lt hL ha h
  · exact ha
theorem i_label : PIn L (pLabel L) := by
  intro a ha d
  simp only [pLabel]
  split
  · rename_i h; exact isS_lt hL ha h
  · split
    · rename_i h; exact isS_lt hL ha h
    · exact ha
theorem i_scalar {l : Nat} : PIn L (pScalar L l) := by
  intro a ha d
  simp only [pScalar]
  split
  · rename_i h; exact isS_lt hL ha h
  · split
    · rename_i h; exact isS_lt hL ha h
    · exact ha
theorem i_many : PIn L (pMany L) := (i_take hL).bind fun _ => i_here.bind fun _ => PIn.ite PIn.fail ((i_kind hL (by decide)).bind fun _ => (i_take hL).bind fun _ => PIn.pure)
theorem i_kinds {l : Nat} : PIn L (pKinds L l) :=
  (i_maybe hL).bind fun _ => PIn.ite ((i_many hL).bind fun _ => PIn.pure) ((i_scalar hL).bind fun _ => PIn.ite (i_is.bind fun _ => PIn.ite ((i_many hL).bind fun _ => PIn.pure) PIn.pure) PIn.pure)
theorem i_param : PIn L (pParam L) :=
  (i_maybe hL).bind fun _ => (i_label hL).bind fun _ => (i_kind hL (by decide)).bind fun _ => (i_take hL).bind fun _ => (i_kinds hL).bind fun _ => PIn.pure
theorem i_more {one : PM α} (h : PIn L one) : ∀ (n : Nat) (l : List α), PIn L (pMore L one n l)
  | 0, _ => PIn.fail
  | n + 1, l => h.bind fun x => (i_maybe hL).bind fun _ => PIn.ite (i_more h n _) PIn.pure
theorem i_list {one : PM α} {w : List UInt8} (h : PIn L one) : PIn L (pList L w one) := i_is.bind fun _ => PIn.ite PIn.pure (i_more hL h _ _)
section
variable {ex un : PM XE} (he : PIn L ex) (hu : PIn L un)
include he
theorem i_index : PIn L (pIndex L ex) := (i_open hL).bind fun _ => he.bind fun _ => (i_shut hL).bind fun _ => PIn.pure
theorem i_call {t : Token} : PIn L (pCall L ex t) := (i_open hL).bind fun _ => (i_list hL he).bind fun _ => (i_shut hL).bind fun _ => PIn.pure
theorem i_args : ∀ (n : Nat) (b : Bool) (l : List XE), PIn L (pArgs L ex n b l)
  | 0, _, _ => PIn.pure
  | n + 1, b, l => by
    have h1 : ∀ _ : Unit, PIn L (do let x ← ex; pArgs L ex n false (l ++ [x]) : PM (List XE)) := fun _ => he.bind fun _ => i_args n _ _
    cases b
    · exact (i_take hL).bind fun u => h1 u
    · exact PIn.bind (x := (Pure.pure PUnit.unit : PM PUnit)) PIn.pure fun u => h1 u
theorem i_made {kind many a : Nat} {number : Bool} (ha : a + 1 < L.length) : InAt L (pMade L ex kind many number) a :=
  InAt.here (InAt.next ha ((i_open hL).bind fun _ => (i_args hL he _ _ _).bind fun _ =>
    PIn.ite ((i_take hL).bind fun _ => (i_kind hL (by decide)).bind fun _ => (i_shut hL).bind fun _ => PIn.pure) ((i_shut hL).bind fun _ => PIn.pure)))
theorem i_primary : PIn L (pPrimary L ex) := fun a ha => InAt.here (InAt.ite (fun h => InAt.next (kind_lt (k := 2) hL ha (by decide) h) PIn.pure) fun _ =>
  InAt.ite (fun _ => ((i_open hL).bind fun _ => he.bind fun _ => (i_shut hL).bind fun _ => PIn.pure) a ha) fun _ =>
  InAt.ite (fun h => i_made hL he (isS_lt hL ha h)) fun _ => InAt.ite (fun h => i_made hL he (isS_lt hL ha h)) fun _ => InAt.ite (fun h => i_made hL he (isS_lt hL ha h)) fun _ =>
  InAt.ite (fun h => i_made hL he (isS_lt hL ha h)) fun _ => InAt.ite (fun h => i_made hL he (isS_lt hL ha h)) fun _ =>
  ((i_kind hL (by decide)).bind fun _ => i_is.bind fun _ => PIn.ite (i_call hL he) (i_is.bind fun _ => PIn.ite ((i_index hL he).bind fun _ => PIn.pure) PIn.pure)) a ha)
include hu
theorem i_unary : PIn L (pUnary L ex un) := by
  have hs : ∀ kind, PIn L (pSign L un kind) := fun kind => i_here.bind fun _ => (i_open hL).bind fun _ => hu.bind fun _ => i_up.bind fun _ => PIn.pure
  exact i_here.bind fun _ => PIn.ite (hs _) (PIn.ite (hs _) (PIn.ite (hs _) (i_primary hL he)))
end
theorem i_join {next : PM XE} (hn : PIn L next) (k : Nat) : ∀ (n : Nat) (x : XE), PIn L (pJoin L next k n x)
  | 0, _ => PIn.fail
  | n + 1, x => fun a ha => InAt.here (by
    cases hs : signOf (tk L a) k with
    | none => exact PIn.pure a ha
    | some kind => exact InAt.next (kind_lt (k := 4) hL ha (by decide) (signOf_kind hs)) (PIn.ite ((i_kind hL (by decide)).bind fun _ => i_join hn k n _) (hn.bind fun _ => i_join hn k n _)))
theorem i_chain {un : PM XE} (hu : PIn L un) : ∀ j, PIn L (pChain L un j)
  | 0 => hu
  | j + 1 => (i_chain hu j).bind fun _ => i_join hL (i_chain hu j) _ _ _
theorem i_expr {un : PM XE} (hu : PIn L un) : PIn L (pExpr L un) :=
  (i_chain hL hu 6).bind fun _ => fun a ha => InAt.here (by
    cases hs : signOf (tk L a) 0 with
    | none => exact PIn.pure a ha
    | some kind => exact InAt.next (kind_lt (k := 4) hL ha (by decide) (signOf_kind hs)) ((i_chain hL hu 6).bind fun _ => PIn.pure))
theorem i_un : ∀ n, PIn L (pUn L n)
  | 0 => PIn.fail
  | n + 1 => i_unary hL (i_expr hL (i_un n)) (i_un n)
theorem i_ex (n : Nat) : PIn L (pEx L n) := i_expr hL (i_un hL n)
theorem i_end (n : Nat) : PIn L (pEnd L n) := (i_ex hL n).bind fun _ => (i_take hL).bind fun _ => PIn.pure
theorem i_named (n pos : Nat) : PIn L (pNamed L n pos) :=
  (i_kind hL (by decide)).bind fun _ => i_is.bind fun _ => PIn.ite ((i_call hL (i_ex hL _)).bind fun _ => (i_take hL).bind fun _ => PIn.pure)
    (i_is.bind fun _ => PIn.ite ((i_index hL (i_ex hL _)).bind fun _ => (i_take hL).bind fun _ => (i_end hL _).bind fun _ => PIn.pure) ((i_take hL).bind fun _ => (i_end hL _).bind fun _ => PIn.pure))
theorem i_stmt {block : PM (List XS)} (hb : PIn L block) (n : Nat) : PIn L (pStmt L block n) :=
  i_here.bind fun _ => (i_maybe hL).bind fun _ => PIn.ite ((i_kind hL (by decide)).bind fun _ => (i_take hL).bind fun _ => (i_end hL _).bind fun _ => PIn.pure)
    ((i_maybe hL).bind fun _ => PIn.ite ((i_label hL).bind fun _ => (i_kind hL (by decide)).bind fun _ => (i_take hL).bind fun _ => (i_kinds hL).bind fun _ => (i_take hL).bind fun _ => PIn.pure)
    ((i_maybe hL).bind fun _ => PIn.ite ((i_ex hL n).bind fun _ => hb.bind fun _ => (i_maybe hL).bind fun _ => PIn.ite (hb.bind fun _ => PIn.pure) PIn.pure)
    ((i_maybe hL).bind fun _ => PIn.ite ((i_kind hL (by decide)).bind fun _ => (i_take hL).bind fun _ => (i_ex hL n).bind fun _ => (i_take hL).bind fun _ => (i_kind hL (by decide)).bind fun _ => hb.bind fun _ => PIn.pure)
    ((i_maybe hL).bind fun _ => PIn.ite ((i_end hL n).bind fun _ => PIn.pure) (i_named hL _ _)))))
omit hL in
theorem i_stmts {stmt : PM XS} (hs : PIn L stmt) : ∀ (m : Nat) (l : List XS), PIn L (pStmts L stmt m l)
  | 0, _ => PIn.fail
  | m + 1, l => i_is.bind fun _ => PIn.ite PIn.pure (hs.bind fun _ => i_stmts hs m _)
theorem i_block : ∀ n, PIn L (pBlock L n)
  | 0 => PIn.fail
  | n + 1 => (i_open hL).bind fun _ => (i_stmts (i_stmt hL (i_block n) n) _ _).bind fun _ => (i_shut hL).bind fun _ => PIn.pure
theorem i_func : PIn L (pFunc L) :=
  (i_take hL).bind fun _ => (i_kind hL (by decide)).bind fun _ => (i_take hL).bind fun _ => (i_list hL (i_param hL)).bind fun _ => (i_take hL).bind fun _ => (i_maybe hL).bind fun _ =>
    PIn.ite ((i_label hL).bind fun _ => (i_scalar hL).bind fun _ => (i_block hL _).bind fun _ => PIn.pure) ((i_block hL _).bind fun _ => PIn.pure)
theorem i_funcs : ∀ (m : Nat) (l : List XF), PIn L (pFuncs L m l)
  | 0, _ => PIn.fail
  | m + 1, l => i_here.bind fun _ => PIn.ite PIn.pure ((i_func hL).bind fun _ => i_funcs m _)
end
end Go.Proofs.YtkeoalhglkfbkaaDoor

/-
  THE PLAIN LAW of SyntaxCuts: the error stays where it was. No program in sight. No conditions.
-/
namespace Go.Proofs.YtkeoalhglkfbkaaDoor
open Go Hk

/-- From a place on to the next blank or line's end. -/
def wordEnd (s : List UInt8) : Nat → Nat → Nat
  | 0, e => e
  | n + 1, e => match s[e]? with
    | some b => if b ≠ 32 ∧ b ≠ 10 then wordEnd s n (e + 1) else e
    | none => e

theorem wordEnd_spec (s : List UInt8) : ∀ (n e : Nat), e ≤ s.length → s.length < e + n → e ≤ wordEnd s n e ∧ wordEnd s n e ≤ s.length ∧ (wordEnd s n e = s.length ∨ ∃ b, s[wordEnd s n e]? = some b ∧ (b = 10 ∨ b = 32))
  | 0, e, h1, h2 => by omega
  | n + 1, e, h1, h2 => by
    unfold wordEnd
    cases hb : s[e]? with
    | none =>
      have := List.getElem?_eq_none_iff.1 hb
      exact ⟨Nat.le_refl _, h1, .inl (by simp only []; omega)⟩
    | some b =>
      have hlt := (List.getElem?_eq_some_iff.1 hb).1
      simp only []
      by_cases hc : b ≠ 32 ∧ b ≠ 10
      · rw [if_pos hc]
        obtain ⟨k1, k2, k3⟩ := wordEnd_spec s n (e + 1) hlt (by omega)
        exact ⟨by omega, k2, k3⟩
      · rw [if_neg hc]
        refine ⟨Nat.le_refl _, h1, .inr ⟨b, hb, ?_⟩⟩
        by_cases h : b = 32
        · exact .inr h
        · exact .inl (Classical.byContradiction fun h' => hc ⟨h, h'⟩)

theorem parse_bad {s : List UInt8} {e : Nat} (he : (parseS s).2.1 = e) (h : e = 10 ∨ e = 11) : ∃ L p j d, lexS s = (L, 0, 0) ∧ pFuncs L 131073 [] 0 0 = .bad e p j d ∧ parseS s = ([], e, p) := by
  unfold parseS at he ⊢
  by_cases h0 : (lexS s).2.1 = 0
  · rw [if_pos h0] at he ⊢
    obtain ⟨l, hl, _, _⟩ := lexS_ok h0
    cases hp : pFuncs (lexS s).1 131073 [] 0 0 with
    | ok l a d => rw [hp] at he; simp at he; omega
    | bad e' p j d =>
      rw [hp] at he
      simp only at he
      subst he
      exact ⟨(lexS s).1, p, j, d, by rw [hl], hp, rfl⟩
  · rw [if_neg h0] at he
    exfalso
    simp only at he
    by_cases hs : 65536 < s.length
    · have e5 : (lexS s).2.1 = 5 := by unfold lexS; rw [if_pos hs]
      omega
    · have e1 : lexS s = lexFrom s 0 [] := by unfold lexS; rw [if_neg hs]
      rcases lexFrom_facts s 0 [] with ⟨p, hp⟩ | ⟨l, hl, _, _⟩
      · rw [e1, hp] at he; simp only at he; omega
      · rw [e1, hl] at h0; exact h0 rfl

theorem parse_err (s : List UInt8) : (parseS s).2.1 ≠ 0 → (parseS s).1 = [] := by
  unfold parseS
  by_cases h0 : (lexS s).2.1 = 0
  · rw [if_pos h0]
    cases pFuncs (lexS s).1 131073 [] 0 0 with
    | ok l a d => intro h; exact absurd rfl h
    | bad e p j d => intro _; rfl
  · rw [if_neg h0]; intro _; rfl

theorem syntax_cuts (s t : List UInt8) (hs : s.length ≤ 20000) (ht : t.length ≤ 20000) {e p : Nat} (he : e = 10 ∨ e = 11) (hp : parseS s = ([], e, p)) :
    p ≤ s.length ∧ (p < s.length → let z := wordEnd s (s.length + 1) (p + 1)
      parseS (s.take z ++ 10 :: t) = ([], e, p) ∨ ∃ q, parseS (s.take z ++ 10 :: t) = ([], 9, q) ∧ z < q) := by
  obtain ⟨L, p', j, d, hL, hf, hp'⟩ := parse_bad (s := s) (e := e) (by rw [hp]) he
  rw [hp] at hp'
  obtain rfl : p = p' := by simpa using hp'
  have hloc := l_funcs 131073 []
  have hplace : p = (tk L j).pos := (hloc.place L 0 0 e p j d hf).1
  have hok : (lexS s).2.1 = 0 := by rw [hL]
  obtain ⟨l0, hl0, hfact, hpw⟩ := lexS_ok hok
  rw [hL] at hl0
  obtain rfl : L = l0 ++ [⟨0, s.length, 0, []⟩] := by simpa using hl0
  have hpos : p ≤ s.length := by
    rw [hplace]
    have h1 := lexS_pos s
    rw [hL] at h1
    unfold tk
    cases hj : (l0 ++ [⟨0, s.length, 0, []⟩])[j]? with
    | none => simp
    | some x => exact h1 x (List.mem_of_getElem? hj)
  refine ⟨hpos, fun hlt => ?_⟩
  obtain ⟨z, hz⟩ : ∃ z, z = wordEnd s (s.length + 1) (p + 1) := ⟨_, rfl⟩
  simp only [← hz]
  obtain ⟨z1, z2, z3⟩ := wordEnd_spec s (s.length + 1) (p + 1) (by omega) (by omega)
  rw [← hz] at z1 z2 z3
  -- the tokens ahead of the cut
  have hcut : ∃ l r, lexS (s.take z) = (l ++ [⟨0, (s.take z).length, 0, []⟩], 0, 0) ∧ l0 ++ [⟨0, s.length, 0, []⟩] = l ++ r ∧ ∀ x ∈ r, (s.take z).length ≤ x.pos := by
    rcases z3 with z3 | ⟨b, hb, hb2⟩
    · have e1 : s.take z = s := by rw [z3, List.take_length]
      rw [e1]
      exact ⟨l0, [⟨0, s.length, 0, []⟩], hL, rfl, fun x hx => by simp at hx; subst hx; exact Nat.le_refl _⟩
    · have e1 : s = s.take z ++ b :: s.drop (z + 1) := by
        obtain ⟨h1, h2⟩ := List.getElem?_eq_some_iff.1 hb
        rw [← h2, ← List.drop_eq_getElem_cons h1, List.take_append_drop]
      have := lexS_cut hb2 (s.take z) (s.drop (z + 1)) (L := l0 ++ [⟨0, s.length, 0, []⟩]) (by rw [← e1]; exact hL)
      exact this
  obtain ⟨l, r, c1, c2, c3⟩ := hcut
  have hzl : (s.take z).length = z := by simp; omega
  rw [hzl] at c1 c3
  -- the error's token is one of them
  have hin : j < (l0 ++ ([⟨0, s.length, 0, []⟩] : List Token)).length := by
    have := i_funcs (L := l0 ++ [⟨0, s.length, 0, []⟩]) tokOk_of 131073 [] 0 (by simp) 0
    rw [hf] at this
    exact this
  have hj : j < l.length := by
    apply Classical.byContradiction
    intro hn
    have hjr : tk (l0 ++ [⟨0, s.length, 0, []⟩]) j ∈ r := by
      rw [c2] at hin ⊢
      unfold tk
      rw [List.getElem?_append_right (by omega)]
      have : j - l.length < r.length := by simp at hin; omega
      rw [List.getElem?_eq_getElem this]
      exact List.getElem_mem _
    have := c3 _ hjr
    omega
  have agree : ∀ (L' : List Token), (∀ i, i < l.length → L'[i]? = l[i]?) → pFuncs L' 131073 [] 0 0 = .bad e p j d := by
    intro L' hL'
    have := hloc.loc (l0 ++ [⟨0, s.length, 0, []⟩]) L' 0 0 (fun i hi => by
      rw [hf] at hi
      have hi : i ≤ j := hi
      unfold tk
      rw [hL' i (by omega), c2, List.getElem?_append_left (by omega)])
    rw [this, hf]
  have hjoin := lexS_join (s.take z) t (by omega) ht
  rcases hjoin with ⟨q, h1, _⟩ | ⟨l2, h1, h2⟩
  · rw [c1] at h1; simp at h1
  · rw [c1] at h1
    obtain rfl : l = l2 := by simpa [hzl] using h1
    rw [hzl] at h2
    rcases h2 with ⟨q, h3, h4⟩ | ⟨r2, h3, h4⟩
    · right
      refine ⟨z + 1 + q, ?_, by omega⟩
      unfold parseS; rw [h4]; rfl
    · left
      unfold parseS
      rw [h4]
      simp only [if_true]
      rw [agree _ fun i hi => List.getElem?_append_left hi]
end Go.Proofs.YtkeoalhglkfbkaaDoor

/-
  The law SyntaxCuts, by the evaluator. No conditions.
-/
namespace Go.Proofs.YtkeoalhglkfbkaaDoor
open Go Hk

/-- The law's memory. -/
def hD (rows : List (List AVal)) (e p : Nat) : Heap := [.cells [.slice rows .no], .front 0 0, .cells [.int .i64 (e : Int), .int .i64 (p : Int)]]

theorem m10_loop (s t : List UInt8) (rows : List (List AVal)) (e0 p0 : Nat) (hs : s.length ≤ 20000) : ∀ (n e : Nat), s.length < e + n → e ≤ 20001 →
    lpW (m10_l0 KK 3) ([.str s, .str t, .bool false, .ptr 2 0, .int .i64 (e : Int)], hD rows e0 p0) = some (.exit 0, [.str s, .str t, .bool false, .ptr 2 0, .int .i64 (wordEnd s n e : Int)], hD rows e0 p0) := by
  have htr : trunc 3 (hD rows e0 p0) = some (hD rows e0 p0) := by simp [hD, trunc]
  have hsp : ∀ h, AVal.san 3 h (.ptr 2 0) = .ptr 2 0 := fun h => san_ptr_lt (by omega)
  intro n
  induction n with
  | zero =>
    intro e h1 h2
    have hn : ¬ e < s.length := by omega
    rw [lpW_step]
    simp -implicitDefEqProofs [m10_l0, hn, endR, htr, hsp, wordEnd]
  | succ n ih =>
    intro e h1 h2
    rw [lpW_step]
    unfold wordEnd
    cases hb : s[e]? with
    | none =>
      have h3 := List.getElem?_eq_none_iff.1 hb
      have hn : ¬ e < s.length := by omega
      simp -implicitDefEqProofs [m10_l0, hn, endR, htr, hsp]
    | some b =>
      obtain ⟨h3, rfl⟩ := List.getElem?_eq_some_iff.1 hb
      have w1 := wrapS (a := e) (by omega)
      have t1 : ∀ k : Nat, k < 256 → (((s[e].toNat : Int) = (k : Int)) ↔ s[e] = UInt8.ofNat k) := by
        intro k hk
        constructor
        · intro h
          have h : s[e].toNat = k := by omega
          rw [← h, UInt8.ofNat_toNat]
        · intro h
          rw [h]
          have : (UInt8.ofNat k).toNat = k := by simp [UInt8.toNat_ofNat']; omega
          rw [this]
      have t32 := t1 32 (by omega)
      have t10 := t1 10 (by omega)
      simp only [Int.cast_ofNat_Int] at t32 t10
      have u32 : UInt8.ofNat 32 = 32 := rfl
      have u10 : UInt8.ofNat 10 = 10 := rfl
      rw [u32] at t32
      rw [u10] at t10
      by_cases c1 : s[e] = 32
      · have c1' := t32.2 c1
        simp -implicitDefEqProofs [m10_l0, h3, c1, endR, htr, hsp]
      · have c1' : ¬ (s[e].toNat : Int) = 32 := fun h => c1 (t32.1 h)
        by_cases c2 : s[e] = 10
        · have c2' := t10.2 c2
          simp -implicitDefEqProofs [m10_l0, h3, c2, endR, htr, hsp]
        · have c2' : ¬ (s[e].toNat : Int) = 10 := fun h => c2 (t10.1 h)
          have := ih (e + 1) (by omega) (by omega)
          simp only [Int.natCast_add, Int.cast_ofNat_Int] at this
          simp -implicitDefEqProofs [m10_l0, h3, c1, c1', c2, c2', endR, htr, hsp, w1, this]

theorem c10 (s t : List UInt8) : evW Tryd.prog ann 10 [.str s, .str t] [] = some (.ret (.bool true), []) := by
  refine evW_by (m10_eq _ _ _ _) ?_
  have h36 := c36
  by_cases hs : (20000 : Int) < s.length
  · simp -implicitDefEqProofs [m10, hs, h36, finR_zero]
  · by_cases ht : (20000 : Int) < t.length
    · simp -implicitDefEqProofs [m10, hs, ht, h36, finR_zero]
    · have h33 := c33 s
      obtain ⟨F, e, p, hp⟩ : ∃ F e p, parseS s = (F, e, p) := ⟨_, _, _, rfl⟩
      rw [hp] at h33
      have herr := parse_err s
      rw [hp] at herr
      by_cases h10 : e = 10 ∨ e = 11
      · have hF : F = [] := herr (by rcases h10 with h | h <;> simp [h])
        subst hF
        obtain ⟨k1, k2⟩ := syntax_cuts s t (by omega) (by omega) h10 hp
        have n1 : ¬ (p : Int) < 0 := by omega
        have n2 : ¬ (s.length : Int) < p := by omega
        by_cases hz : p = s.length
        · subst hz
          rcases h10 with rfl | rfl <;> simp -implicitDefEqProofs [m10, hs, ht, h33, n1, h36, finR_zero]
        · have hlt : p < s.length := by omega
          have hz' : ¬ (p : Int) = s.length := by omega
          have k3 := k2 hlt
          have w1 := wrapS (a := p) (by omega)
          obtain ⟨z, hzz⟩ : ∃ z, z = wordEnd s (s.length + 1) (p + 1) := ⟨_, rfl⟩
          obtain ⟨z1, z2, _⟩ := wordEnd_spec s (s.length + 1) (p + 1) (by omega) (by omega)
          have hlp := m10_loop s t [] e p (by omega) (s.length + 1) (p + 1) (by omega) (by omega)
          simp only [← hzz] at k3 hlp z1 z2
          simp only [hD, Int.natCast_add, Int.cast_ofNat_Int] at hlp
          have hsl := asliceStr_nat (s := s) (lo := none) (hi := some (.int .i64 (z : Int))) abound_none abound_nat (Nat.zero_le _) z2
          simp only [List.drop_zero, Nat.sub_zero] at hsl
          obtain ⟨w, hw⟩ : ∃ w, w = s.take z := ⟨_, rfl⟩
          have hwl : w.length ≤ 20000 := by rw [hw]; simp; omega
          have hl1 : w.length ≤ 4611686018427387903 := by omega
          have hl2 : w.length + 1 + t.length ≤ 4611686018427387904 := by omega
          simp only [← hw] at k3 hsl
          have h34 := c33 (w ++ 10 :: t)
          rcases h10 with rfl | rfl <;> simp only [Int.cast_ofNat_Int] at hlp
          · rcases k3 with k3 | ⟨q, k3, k4⟩
            · rw [k3] at h34
              simp -implicitDefEqProofs [m10, hs, ht, h33, n1, n2, hz', w1, hlp, hsl, hl1, hl2, h34, h36, aeqAgg, aeqAll, aeqK, finR_zero]
            · rw [k3] at h34
              have k4' : (z : Int) < q := by omega
              simp -implicitDefEqProofs [m10, hs, ht, h33, n1, n2, hz', w1, hlp, hsl, hl1, hl2, h34, k4', h36, aeqAgg, aeqAll, aeqK, finR_zero]
          · rcases k3 with k3 | ⟨q, k3, k4⟩
            · rw [k3] at h34
              simp -implicitDefEqProofs [m10, hs, ht, h33, n1, n2, hz', w1, hlp, hsl, hl1, hl2, h34, h36, aeqAgg, aeqAll, aeqK, finR_zero]
            · rw [k3] at h34
              have k4' : (z : Int) < q := by omega
              simp -implicitDefEqProofs [m10, hs, ht, h33, n1, n2, hz', w1, hlp, hsl, hl1, hl2, h34, k4', h36, aeqAgg, aeqAll, aeqK, finR_zero]
      · have e10 : ¬ (e : Int) = 10 := by omega
        have e11 : ¬ (e : Int) = 11 := by omega
        by_cases e0 : e = 0
        · simp -implicitDefEqProofs [m10, hs, ht, h33, e10, e11, e0, h36, finR_zero]
        · have hF : F = [] := herr (by simp only; omega)
          subst hF
          simp -implicitDefEqProofs [m10, hs, ht, h33, e10, e11, e0, h36, finR_zero]
end Go.Proofs.YtkeoalhglkfbkaaDoor

/-
  THE PLAIN LAW of SyntaxDeep, first part: the tokens of so many nests. No program in sight. No conditions.
-/
namespace Go.Proofs.YtkeoalhglkfbkaaDoor
open Go Hk

/-- What is nested: parentheses, a sign, indexes, a sign and parentheses, calls. -/
inductive UK where
  | par | neg | idx | not | call
  deriving DecidableEq
def UK.txt : UK → List UInt8
  | .par => [40] | .neg => [45] | .idx => [98, 91] | .not => [126, 40] | .call => [102, 40]
def UK.cl : UK → UInt8
  | .idx => 93 | _ => 41
def UK.c : UK → Nat
  | .neg => 0 | _ => 1
def UK.each : UK → Nat
  | .not => 2 | _ => 1
def UK.w : UK → Nat
  | .par => 1 | .neg => 1 | _ => 2
def UK.toks (p : Nat) : UK → List Token
  | .par => [⟨4, p, 0, [40]⟩] | .neg => [⟨4, p, 0, [45]⟩] | .idx => [⟨1, p, 0, [98]⟩, ⟨4, p + 1, 0, [91]⟩]
  | .not => [⟨4, p, 0, [126]⟩, ⟨4, p + 1, 0, [40]⟩] | .call => [⟨1, p, 0, [102]⟩, ⟨4, p + 1, 0, [40]⟩]

def opens (k : UK) (n : Nat) : List UInt8 := (List.replicate n k.txt).flatten
def units (k : UK) : Nat → Nat → List Token
  | 0, _ => []
  | n + 1, p => k.toks p ++ units k n (p + k.w)
def shutT (c : UInt8) : Nat → Nat → List Token
  | 0, _ => []
  | n + 1, p => ⟨4, p, 0, [c]⟩ :: shutT c n (p + 1)

section
variable {s rest X : List UInt8} {a p n : Nat} {out : List Token} {t : Token} {c : UInt8}

theorem lex_tok (hd : s.drop a = c :: rest) (h1 : isBlank c = false) (h2 : c ≠ 47) (ho : oneS (c :: rest) a = some (t, n)) (hn : 1 ≤ n) : lexFrom s a out = lexFrom s (a + n) (out ++ [t]) := by
  have hg : s[a]? = some c := by rw [← List.head?_drop, hd]; rfl
  exact lex_step (skip_here hg h1 h2) (List.getElem?_eq_some_iff.1 hg).1 (by rw [hd]; exact ho) (by omega)
theorem lex_blank (hd : s.drop a = 32 :: rest) : lexFrom s a out = lexFrom s (a + 1) out := by
  have hg : s[a]? = some 32 := by rw [← List.head?_drop, hd]; rfl
  obtain ⟨h1, h2⟩ := List.getElem?_eq_some_iff.1 hg
  have : skipTo s a = skipTo s (a + 1) := by
    rw [skipTo, dif_pos h1, h2, if_pos (by decide)]
  rw [lexFrom.eq_1 _ a, lexFrom.eq_1 _ (a + 1)]
  simp only [this]

theorem sign1 (h : ∀ b, ¬ [c, b] ∈ twosT) (h0 : ¬ [c] ∈ twosT) (h1 : [c] ∈ onesT) (r : List UInt8) : signFrom signsT (c :: r) = [c] := by
  rw [signFrom_eq]
  cases r with
  | nil => simp [h0, h1]
  | cons b r => simp [h b, h1]
theorem one_sign (hl : isLetter c = false) (hd : isDigit c = false) (h : signFrom signsT (c :: rest) = [c]) : oneS (c :: rest) p = some (⟨4, p, 0, [c]⟩, 1) := by
  simp [oneS, hl, hd, h]
theorem one40 : oneS (40 :: rest) p = some (⟨4, p, 0, [40]⟩, 1) := one_sign (by decide) (by decide) (sign1 (by intro b; simp [twosT, signsT]) (by decide) (by decide) rest)
theorem one41 : oneS (41 :: rest) p = some (⟨4, p, 0, [41]⟩, 1) := one_sign (by decide) (by decide) (sign1 (by intro b; simp [twosT, signsT]) (by decide) (by decide) rest)
theorem one45 : oneS (45 :: rest) p = some (⟨4, p, 0, [45]⟩, 1) := one_sign (by decide) (by decide) (sign1 (by intro b; simp [twosT, signsT]) (by decide) (by decide) rest)
theorem one91 : oneS (91 :: rest) p = some (⟨4, p, 0, [91]⟩, 1) := one_sign (by decide) (by decide) (sign1 (by intro b; simp [twosT, signsT]) (by decide) (by decide) rest)
theorem one93 : oneS (93 :: rest) p = some (⟨4, p, 0, [93]⟩, 1) := one_sign (by decide) (by decide) (sign1 (by intro b; simp [twosT, signsT]) (by decide) (by decide) rest)
theorem one126 : oneS (126 :: rest) p = some (⟨4, p, 0, [126]⟩, 1) := one_sign (by decide) (by decide) (sign1 (by intro b; simp [twosT, signsT]) (by decide) (by decide) rest)
theorem one59 : oneS (59 :: rest) p = some (⟨4, p, 0, [59]⟩, 1) := one_sign (by decide) (by decide) (sign1 (by intro b; simp [twosT, signsT]) (by decide) (by decide) rest)
theorem one123 : oneS (123 :: rest) p = some (⟨4, p, 0, [123]⟩, 1) := one_sign (by decide) (by decide) (sign1 (by intro b; simp [twosT, signsT]) (by decide) (by decide) rest)
theorem one125 : oneS (125 :: rest) p = some (⟨4, p, 0, [125]⟩, 1) := one_sign (by decide) (by decide) (sign1 (by intro b; simp [twosT, signsT]) (by decide) (by decide) rest)
theorem one61 : oneS (61 :: 32 :: rest) p = some (⟨4, p, 0, [61]⟩, 1) := one_sign (by decide) (by decide) (by
  rw [signFrom_eq]
  have h1 : ¬ [61, 32] ∈ twosT := by decide
  have h2 : [61] ∈ onesT := by decide
  simp [h1, h2])
theorem run1 {b : UInt8} (hc : isWord c = true) (hb : isWord b = false) : runOf (c :: b :: rest) = [c] := by
  simp [runOf, List.takeWhile_cons, hc, hb]
theorem one_name {b : UInt8} (hl : isLetter c = true) (hb : isWord b = false) (hw : ¬ [c] ∈ wordsT) : oneS (c :: b :: rest) p = some (⟨1, p, 0, [c]⟩, 1) := by
  have hr := run1 (rest := rest) (c := c) (b := b) (by simp [isWord, hl]) hb
  simp [oneS, hl, hr, hw]
theorem one49 {b : UInt8} (hb : isWord b = false) : oneS (49 :: b :: rest) p = some (⟨2, p, 1, []⟩, 1) := by
  have hr := run1 (rest := rest) (c := 49) (b := b) (by decide) hb
  have h1 : isLetter 49 = false := by decide
  have h2 : isDigit 49 = true := by decide
  have h3 : numberS [49] = some 1 := by decide
  simp [oneS, h1, h2, hr, h3]
theorem one_fn : oneS (102 :: 110 :: 32 :: rest) p = some (⟨3, p, 0, [102, 110]⟩, 2) := by
  have h1 : isWord 102 = true := by decide
  have h2 : isWord 110 = true := by decide
  have h3 : isWord 32 = false := by decide
  have hr : runOf (102 :: 110 :: 32 :: rest) = [102, 110] := by simp [runOf, List.takeWhile_cons, h1, h2, h3]
  have h4 : isLetter 102 = true := by decide
  have h5 : [102, 110] ∈ wordsT := by decide
  simp [oneS, h4, hr, h5]

theorem drop_add {l r : List UInt8} (hd : s.drop a = l ++ r) : s.drop (a + l.length) = r := by
  rw [← List.drop_drop, hd, List.drop_left]
theorem drop_one {l : List UInt8} (hd : s.drop a = c :: l) : s.drop (a + 1) = l := drop_add (l := [c]) hd

theorem lex_unit (k : UK) (hd : s.drop a = k.txt ++ X) : lexFrom s a out = lexFrom s (a + k.w) (out ++ k.toks a) := by
  cases k with
  | par => exact lex_tok hd (by decide) (by decide) one40 (Nat.le_refl 1)
  | neg => exact lex_tok hd (by decide) (by decide) one45 (Nat.le_refl 1)
  | idx =>
    have h2 := drop_one (c := 98) hd
    refine (lex_tok hd (by decide) (by decide) (one_name (by decide) (by decide) (by decide)) (Nat.le_refl 1)).trans ((lex_tok h2 (by decide) (by decide) one91 (Nat.le_refl 1)).trans ?_)
    simp [UK.toks, UK.w]
  | not =>
    have h2 := drop_one (c := 126) hd
    refine (lex_tok hd (by decide) (by decide) one126 (Nat.le_refl 1)).trans ((lex_tok h2 (by decide) (by decide) one40 (Nat.le_refl 1)).trans ?_)
    simp [UK.toks, UK.w]
  | call =>
    have h2 := drop_one (c := 102) hd
    refine (lex_tok hd (by decide) (by decide) (one_name (by decide) (by decide) (by decide)) (Nat.le_refl 1)).trans ((lex_tok h2 (by decide) (by decide) one40 (Nat.le_refl 1)).trans ?_)
    simp [UK.toks, UK.w]
theorem txt_len (k : UK) : k.txt.length = k.w := by cases k <;> rfl
theorem toks_len (k : UK) (p : Nat) : (k.toks p).length = k.w := by cases k <;> rfl
end

theorem lex_units (k : UK) {s X : List UInt8} : ∀ (n a : Nat) (out : List Token), s.drop a = opens k n ++ X → lexFrom s a out = lexFrom s (a + k.w * n) (out ++ units k n a) ∧ s.drop (a + k.w * n) = X
  | 0, a, out, hd => by simpa [units, opens] using hd
  | n + 1, a, out, hd => by
    have hd : s.drop a = k.txt ++ (opens k n ++ X) := by rw [hd]; simp [opens, List.replicate_succ]
    have h1 := lex_unit (out := out) k hd
    have h2 := drop_add hd
    rw [txt_len] at h2
    obtain ⟨h3, h4⟩ := lex_units k n (a + k.w) (out ++ k.toks a) h2
    have e : a + k.w + k.w * n = a + k.w * (n + 1) := by rw [Nat.mul_succ]; omega
    rw [e] at h3 h4
    refine ⟨h1.trans (h3.trans ?_), h4⟩
    simp [units]

theorem lex_shuts {c : UInt8} (hc : c = 41 ∨ c = 93) {s X : List UInt8} : ∀ (n a : Nat) (out : List Token), s.drop a = List.replicate n c ++ X → lexFrom s a out = lexFrom s (a + n) (out ++ shutT c n a) ∧ s.drop (a + n) = X
  | 0, a, out, hd => by simpa [shutT] using hd
  | n + 1, a, out, hd => by
    have hd : s.drop a = c :: (List.replicate n c ++ X) := by rw [hd]; simp [List.replicate_succ]
    have h1 : lexFrom s a out = lexFrom s (a + 1) (out ++ [⟨4, a, 0, [c]⟩]) := by
      rcases hc with rfl | rfl
      · exact lex_tok hd (by decide) (by decide) one41 (Nat.le_refl 1)
      · exact lex_tok hd (by decide) (by decide) one93 (Nat.le_refl 1)
    have h2 := drop_one hd
    obtain ⟨h3, h4⟩ := lex_shuts hc n (a + 1) (out ++ [⟨4, a, 0, [c]⟩]) h2
    have e : a + 1 + n = a + (n + 1) := by omega
    rw [e] at h3 h4
    refine ⟨h1.trans (h3.trans ?_), h4⟩
    simp [shutT]

def UK.m (k : UK) (n : Nat) : Nat := k.c * n
/-- The text. -/
def deepS (k : UK) (n : Nat) : List UInt8 := 102 :: 110 :: 32 :: 102 :: 40 :: 41 :: 32 :: 123 :: 32 :: 120 :: 32 :: 61 :: 32 :: (opens k n ++ (49 :: (List.replicate (k.m n) k.cl ++ [59, 32, 125])))
/-- Its tokens. -/
def deepT (k : UK) (n : Nat) : List Token := ⟨3, 0, 0, [102, 110]⟩ :: ⟨1, 3, 0, [102]⟩ :: ⟨4, 4, 0, [40]⟩ :: ⟨4, 5, 0, [41]⟩ :: ⟨4, 7, 0, [123]⟩ :: ⟨1, 9, 0, [120]⟩ :: ⟨4, 11, 0, [61]⟩ ::
  (units k n 13 ++ (⟨2, 13 + k.w * n, 1, []⟩ :: (shutT k.cl (k.m n) (13 + k.w * n + 1) ++ [⟨4, 13 + k.w * n + 1 + k.m n, 0, [59]⟩, ⟨4, 13 + k.w * n + 1 + k.m n + 2, 0, [125]⟩, ⟨0, 13 + k.w * n + 1 + k.m n + 3, 0, []⟩])))

theorem opens_len (k : UK) (n : Nat) : (opens k n).length = k.w * n := by
  simp [opens, txt_len, Nat.mul_comm]
theorem deepS_len (k : UK) (n : Nat) : (deepS k n).length = 13 + k.w * n + 1 + k.m n + 3 := by
  simp [deepS, opens_len]; omega

theorem deep_lex (k : UK) (n : Nat) (hn : n ≤ 200) : lexS (deepS k n) = (deepT k n, 0, 0) := by
  have hlen := deepS_len k n
  have hcl : k.cl = 41 ∨ k.cl = 93 := by cases k <;> simp [UK.cl]
  have hw : k.w ≤ 2 := by cases k <;> simp [UK.w]
  have hm : k.m n ≤ n := by cases k <;> simp [UK.m, UK.c]
  have hwn : k.w * n ≤ 2 * n := Nat.mul_le_mul_right n hw
  unfold lexS
  rw [if_neg (by omega)]
  obtain ⟨s, hs⟩ : ∃ s, s = deepS k n := ⟨_, rfl⟩
  have h0 : s.drop 0 = deepS k n := by rw [hs]; rfl
  rw [← hs] at hlen ⊢
  clear hs
  unfold deepS at h0
  generalize hX : opens k n ++ (49 :: (List.replicate (k.m n) k.cl ++ [59, 32, 125])) = X at h0
  have e1 := lex_tok (s := s) (out := []) h0 (by decide) (by decide) one_fn (by omega)
  have h2 : s.drop 2 = _ := drop_one (drop_one h0)
  have e2 := lex_blank (s := s) (out := [⟨3, 0, 0, [102, 110]⟩]) h2
  have h3 : s.drop 3 = _ := drop_one h2
  have e3 := lex_tok (s := s) (out := [⟨3, 0, 0, [102, 110]⟩]) h3 (by decide) (by decide) (one_name (by decide) (by decide) (by decide)) (by omega)
  have h4 : s.drop 4 = _ := drop_one h3
  have e4 := lex_tok (s := s) (out := [⟨3, 0, 0, [102, 110]⟩, ⟨1, 3, 0, [102]⟩]) h4 (by decide) (by decide) one40 (by omega)
  have h5 : s.drop 5 = _ := drop_one h4
  have e5 := lex_tok (s := s) (out := [⟨3, 0, 0, [102, 110]⟩, ⟨1, 3, 0, [102]⟩, ⟨4, 4, 0, [40]⟩]) h5 (by decide) (by decide) one41 (by omega)
  have h6 : s.drop 6 = _ := drop_one h5
  have e6 := lex_blank (s := s) (out := [⟨3, 0, 0, [102, 110]⟩, ⟨1, 3, 0, [102]⟩, ⟨4, 4, 0, [40]⟩, ⟨4, 5, 0, [41]⟩]) h6
  have h7 : s.drop 7 = _ := drop_one h6
  have e7 := lex_tok (s := s) (out := [⟨3, 0, 0, [102, 110]⟩, ⟨1, 3, 0, [102]⟩, ⟨4, 4, 0, [40]⟩, ⟨4, 5, 0, [41]⟩]) h7 (by decide) (by decide) one123 (by omega)
  have h8 : s.drop 8 = _ := drop_one h7
  have e8 := lex_blank (s := s) (out := [⟨3, 0, 0, [102, 110]⟩, ⟨1, 3, 0, [102]⟩, ⟨4, 4, 0, [40]⟩, ⟨4, 5, 0, [41]⟩, ⟨4, 7, 0, [123]⟩]) h8
  have h9 : s.drop 9 = _ := drop_one h8
  have e9 := lex_tok (s := s) (out := [⟨3, 0, 0, [102, 110]⟩, ⟨1, 3, 0, [102]⟩, ⟨4, 4, 0, [40]⟩, ⟨4, 5, 0, [41]⟩, ⟨4, 7, 0, [123]⟩]) h9 (by decide) (by decide) (one_name (by decide) (by decide) (by decide)) (by omega)
  have h10 : s.drop 10 = _ := drop_one h9
  have e10 := lex_blank (s := s) (out := [⟨3, 0, 0, [102, 110]⟩, ⟨1, 3, 0, [102]⟩, ⟨4, 4, 0, [40]⟩, ⟨4, 5, 0, [41]⟩, ⟨4, 7, 0, [123]⟩, ⟨1, 9, 0, [120]⟩]) h10
  have h11 : s.drop 11 = _ := drop_one h10
  have e11 := lex_tok (s := s) (out := [⟨3, 0, 0, [102, 110]⟩, ⟨1, 3, 0, [102]⟩, ⟨4, 4, 0, [40]⟩, ⟨4, 5, 0, [41]⟩, ⟨4, 7, 0, [123]⟩, ⟨1, 9, 0, [120]⟩]) h11 (by decide) (by decide) one61 (by omega)
  have h12 : s.drop 12 = _ := drop_one h11
  have e12 := lex_blank (s := s) (out := [⟨3, 0, 0, [102, 110]⟩, ⟨1, 3, 0, [102]⟩, ⟨4, 4, 0, [40]⟩, ⟨4, 5, 0, [41]⟩, ⟨4, 7, 0, [123]⟩, ⟨1, 9, 0, [120]⟩, ⟨4, 11, 0, [61]⟩]) h12
  have h13 : s.drop 13 = X := drop_one h12
  rw [← hX] at h13
  obtain ⟨e13, h14⟩ := lex_units k n 13 [⟨3, 0, 0, [102, 110]⟩, ⟨1, 3, 0, [102]⟩, ⟨4, 4, 0, [40]⟩, ⟨4, 5, 0, [41]⟩, ⟨4, 7, 0, [123]⟩, ⟨1, 9, 0, [120]⟩, ⟨4, 11, 0, [61]⟩] h13
  have e14 : ∀ out, lexFrom s (13 + k.w * n) out = lexFrom s (13 + k.w * n + 1) (out ++ [⟨2, 13 + k.w * n, 1, []⟩]) := fun out => by
    cases hr : List.replicate (k.m n) k.cl ++ [59, 32, 125] with
    | nil => simp at hr
    | cons b r =>
      rw [hr] at h14
      refine lex_tok h14 (by decide) (by decide) (one49 ?_) (Nat.le_refl 1)
      cases hmn : k.m n with
      | zero => rw [hmn] at hr; simp at hr; rw [← hr.1]; decide
      | succ j => rw [hmn] at hr; simp [List.replicate_succ] at hr; rw [← hr.1]; rcases hcl with h | h <;> rw [h] <;> decide
  have h15 := drop_one h14
  have e15 := fun out => lex_shuts hcl (k.m n) (13 + k.w * n + 1) out h15
  have h16 := (e15 []).2
  have e16 := fun out => lex_tok (s := s) (out := out) h16 (by decide) (by decide) one59 (Nat.le_refl 1)
  have h17 := drop_one h16
  have e17 := fun out => lex_blank (s := s) (out := out) h17
  have h18 := drop_one h17
  have e18 := fun out => lex_tok (s := s) (out := out) h18 (by decide) (by decide) one125 (Nat.le_refl 1)
  have e19 : ∀ out, lexFrom s (13 + k.w * n + 1 + k.m n + 1 + 1 + 1) out = (out ++ [⟨0, s.length, 0, []⟩], 0, 0) := fun out => lex_end (by rw [skipTo, dif_neg (by omega)]; omega)
  refine e1.trans (e2.trans (e3.trans (e4.trans (e5.trans (e6.trans (e7.trans (e8.trans (e9.trans (e10.trans (e11.trans (e12.trans (e13.trans ?_))))))))))))
  rw [e14, (e15 _).1, e16, e17, e18, e19, hlen]
  simp [deepT]
end Go.Proofs.YtkeoalhglkfbkaaDoor

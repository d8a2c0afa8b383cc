/-
  The texts SX.X1, SX.X2, SX.X3, SX.X5, SX.X4, SX.Y1, SX.Y2, SX.Y3, SX.Y4, SX.Y5, SX.Y6, SX.Y7, one behind another. No conditions.
-/
import Derived.Test.YtkeoalhglkfbkaaDoorSx2
import Derived.Test.YtkeoalhglkfbkaaDoorLx3
set_option linter.unusedVariables false
set_option linter.unusedSimpArgs false
/-
  THE PLAIN LAW: a run of the parser looks at no token behind the one at which it ends; an error stands at the token at which it ends. No program in sight. No conditions.
-/
namespace Go.Proofs.YtkeoalhglkfbkaaDoor
open Go Hk

def Out.idx {α : Type} : Out α → Nat
  | .ok _ a _ => a
  | .bad _ _ a _ => a

/-- A run looks at the tokens up to where it ends alone; and its error's place is that token's. -/
structure Loc {α : Type} (x : List Token → PM α) : Prop where
  mono : ∀ L a d, a ≤ (x L a d).idx
  loc : ∀ L L' a d, (∀ i, i ≤ (x L a d).idx → tk L' i = tk L i) → x L' a d = x L a d
  place : ∀ L a d e p a' d', x L a d = .bad e p a' d' → p = (tk L a').pos ∧ e ≠ 0

theorem Loc.bind {α β : Type} {x : List Token → PM α} {f : List Token → α → PM β} (hx : Loc x) (hf : ∀ v, Loc fun L => f L v) : Loc fun L => x L >>= f L where
  mono := fun L a d => by
    have h1 := hx.mono L a d
    simp only [pm_bind, PM.bind]
    cases h : x L a d with
    | ok v a' d' => rw [h] at h1; exact Nat.le_trans h1 ((hf v).mono L a' d')
    | bad e p a' d' => rw [h] at h1; exact h1
  loc := fun L L' a d hh => by
    have h1 := hx.mono L a d
    have h2 := hx.loc L L' a d
    simp only [pm_bind, PM.bind] at hh ⊢
    cases h : x L a d with
    | ok v a' d' =>
      rw [h] at hh h1 h2
      simp only [] at hh
      have h3 := (hf v).mono L a' d'
      rw [h2 fun i hi => hh i (Nat.le_trans hi h3)]
      exact (hf v).loc L L' a' d' hh
    | bad e p a' d' =>
      rw [h] at hh h2
      rw [h2 hh]
  place := fun L a d e p a' d' hb => by
    simp only [pm_bind, PM.bind] at hb
    cases h : x L a d with
    | ok v a1 d1 => rw [h] at hb; exact (hf v).place L a1 d1 e p a' d' hb
    | bad e1 p1 a1 d1 => rw [h] at hb; cases hb; exact hx.place L a d _ _ _ _ h

theorem Loc.pure {α : Type} {v : α} : Loc fun _ => (Pure.pure v : PM α) :=
  ⟨fun _ _ _ => Nat.le_refl _, fun _ _ _ _ _ => rfl, fun _ _ _ _ _ _ _ h => by cases h⟩
theorem Loc.ite {α : Type} {c : Prop} [Decidable c] {x y : List Token → PM α} (hx : Loc x) (hy : Loc y) : Loc fun L => if c then x L else y L := by
  by_cases h : c
  · simp only [h, if_true]; exact hx
  · simp only [h, if_false]; exact hy
theorem Loc.opt {α : Type} {o : Option Nat} {x : List Token → PM α} {f : List Token → Nat → PM α} (hx : Loc x) (hf : ∀ k, Loc fun L => f L k) : Loc fun L => (match o with | none => x L | some k => f L k) := by
  cases o with
  | none => exact hx
  | some k => exact hf k

theorem l_fail {α : Type} {e : Nat} (he : e ≠ 0 := by decide) : Loc fun L => (pFail L e : PM α) :=
  ⟨fun _ _ _ => Nat.le_refl _, fun L L' a d h => by simp only [pFail]; rw [h a (Nat.le_refl _)], fun L a d e p a' d' h => by cases h; exact ⟨rfl, he⟩⟩
theorem l_here : Loc fun L => pHere L :=
  ⟨fun _ _ _ => Nat.le_refl _, fun L L' a d h => by simp only [pHere]; rw [h a (Nat.le_refl _)], fun _ _ _ _ _ _ _ h => by cases h⟩
theorem l_next : Loc fun _ => pNext := ⟨fun _ _ _ => Nat.le_succ _, fun _ _ _ _ _ => rfl, fun _ _ _ _ _ _ _ h => by cases h⟩
theorem l_up : Loc fun _ => pUp := ⟨fun _ _ _ => Nat.le_refl _, fun _ _ _ _ _ => rfl, fun _ _ _ _ _ _ _ h => by cases h⟩
theorem l_is {w : List UInt8} : Loc fun L => pIs L w :=
  ⟨fun _ _ _ => Nat.le_refl _, fun L L' a d h => by simp only [pIs]; rw [h a (Nat.le_refl _)], fun _ _ _ _ _ _ _ h => by cases h⟩
theorem l_maybe {w : List UInt8} : Loc fun L => pMaybe L w :=
  ⟨fun L a d => by simp only [pMaybe, Out.idx]; split <;> omega, fun L L' a d h => by
    have : a ≤ (pMaybe L w a d).idx := by simp only [pMaybe, Out.idx]; split <;> omega
    simp only [pMaybe]; rw [h a this], fun _ _ _ _ _ _ _ h => by cases h⟩
/-- What looks at the next token alone, and takes it or fails there. -/
theorem Loc.one {α : Type} {x : List Token → PM α} (f : Token → Nat → Nat → Option (α × Nat × Nat)) (g : Token → Nat → Nat → Nat) (hg : ∀ t a d, g t a d ≠ 0) (hf : ∀ t a d v a' d', f t a d = some (v, a', d') → a ≤ a')
    (hx : ∀ L a d, x L a d = match f (tk L a) a d with | some (v, a', d') => .ok v a' d' | none => .bad (g (tk L a) a d) (tk L a).pos a d) : Loc x := by
  have hm : ∀ L a d, a ≤ (x L a d).idx := fun L a d => by
    rw [hx]
    cases h : f (tk L a) a d with
    | none => exact Nat.le_refl _
    | some y => obtain ⟨v, a', d'⟩ := y; exact hf _ _ _ _ _ _ h
  refine ⟨hm, fun L L' a d h => ?_, fun L a d e p a' d' h => ?_⟩
  · rw [hx, hx, h a (hm L a d)]
  · rw [hx] at h
    split at h
    · cases h
    · cases h; exact ⟨rfl, hg _ _ _⟩
theorem l_take {w : List UInt8} : Loc fun L => pTake L w :=
  Loc.one (fun t a d => if isS t w then some ((), a + 1, d) else none) (fun _ _ _ => 10) (fun _ _ _ => by decide) (fun t a d v a' d' h => by split at h <;> simp at h; omega) fun L a d => by
    simp only [pTake]; cases isS (tk L a) w <;> rfl
theorem l_kind {k : Nat} : Loc fun L => pKind L k :=
  Loc.one (fun t a d => if t.kind = k then some (t, a + 1, d) else none) (fun _ _ _ => 10) (fun _ _ _ => by decide) (fun t a d v a' d' h => by split at h <;> simp at h; omega) fun L a d => by
    simp only [pKind]; by_cases h : (tk L a).kind = k <;> simp [h]
theorem l_open {w : List UInt8} : Loc fun L => pOpen L w :=
  Loc.one (fun t a d => if isS t w then (if d = 64 then none else some ((), a + 1, d + 1)) else none) (fun t _ d => if isS t w then 11 else 10) (fun t _ d => by split <;> decide) (fun t a d v a' d' h => by
    split at h
    · split at h <;> simp at h; omega
    · cases h) fun L a d => by
    simp only [pOpen]; cases isS (tk L a) w <;> by_cases h : d = 64 <;> simp [h]
theorem l_shut {w : List UInt8} : Loc fun L => pShut L w :=
  Loc.one (fun t a d => if isS t w then some ((), a + 1, d - 1) else none) (fun _ _ _ => 10) (fun _ _ _ => by decide) (fun t a d v a' d' h => by split at h <;> simp at h; omega) fun L a d => by
    simp only [pShut]; cases isS (tk L a) w <;> rfl
theorem l_label : Loc fun L => pLabel L :=
  Loc.one (fun t a d => if isS t secS then some (1, a + 1, d) else if isS t pubS then some (0, a + 1, d) else none) (fun _ _ _ => 10) (fun _ _ _ => by decide) (fun t a d v a' d' h => by
    split at h
    · simp at h; omega
    · split at h <;> simp at h; omega) fun L a d => by
    simp only [pLabel]; cases isS (tk L a) secS <;> cases isS (tk L a) pubS <;> rfl
theorem l_scalar {l : Nat} : Loc fun L => pScalar L l :=
  Loc.one (fun t a d => if isS t maskS then some (⟨1, 0, l⟩, a + 1, d) else if isS t u32S then some (⟨0, 0, l⟩, a + 1, d) else none) (fun _ _ _ => 10) (fun _ _ _ => by decide) (fun t a d v a' d' h => by
    split at h
    · simp at h; omega
    · split at h <;> simp at h; omega) fun L a d => by
    simp only [pScalar]; cases isS (tk L a) maskS <;> cases isS (tk L a) u32S <;> rfl

theorem l_many : Loc fun L => pMany L :=
  l_take.bind fun _ => l_here.bind fun t => Loc.ite l_fail (l_kind.bind fun _ => l_take.bind fun _ => Loc.pure)
theorem l_kinds {l : Nat} : Loc fun L => pKinds L l :=
  l_maybe.bind fun _ => Loc.ite (l_many.bind fun _ => Loc.pure) (l_scalar.bind fun t => Loc.ite (l_is.bind fun _ => Loc.ite (l_many.bind fun _ => Loc.pure) Loc.pure) Loc.pure)
theorem l_param : Loc fun L => pParam L :=
  l_maybe.bind fun _ => l_label.bind fun _ => l_kind.bind fun _ => l_take.bind fun _ => l_kinds.bind fun _ => Loc.pure
theorem l_more {α : Type} {one : List Token → PM α} (h : Loc one) : ∀ (n : Nat) (l : List α), Loc fun L => pMore L (one L) n l
  | 0, _ => l_fail
  | n + 1, l => h.bind fun x => l_maybe.bind fun _ => Loc.ite (l_more h n _) Loc.pure
theorem l_list {α : Type} {one : List Token → PM α} {w : List UInt8} (h : Loc one) : Loc fun L => pList L w (one L) :=
  l_is.bind fun _ => Loc.ite Loc.pure (l_more h _ _)

section
variable {ex un : List Token → PM XE} (he : Loc ex) (hu : Loc un)
include he
theorem l_index : Loc fun L => pIndex L (ex L) := l_open.bind fun _ => he.bind fun _ => l_shut.bind fun _ => Loc.pure
theorem l_call {t : Token} : Loc fun L => pCall L (ex L) t := l_open.bind fun _ => (l_list he).bind fun _ => l_shut.bind fun _ => Loc.pure
theorem l_args : ∀ (n : Nat) (b : Bool) (l : List XE), Loc fun L => pArgs L (ex L) n b l
  | 0, _, _ => Loc.pure
  | n + 1, b, l => by
    have h1 : ∀ _ : Unit, Loc fun L => (do let x ← ex L; pArgs L (ex L) n false (l ++ [x]) : PM (List XE)) := fun _ => he.bind fun _ => l_args n _ _
    cases b
    · exact l_take.bind fun u => h1 u
    · exact Loc.bind (x := fun _ => (Pure.pure PUnit.unit : PM PUnit)) Loc.pure fun u => h1 u
theorem l_made {kind many : Nat} {number : Bool} : Loc fun L => pMade L (ex L) kind many number :=
  l_here.bind fun _ => l_next.bind fun _ => l_open.bind fun _ => (l_args he _ _ _).bind fun _ =>
    Loc.ite (l_take.bind fun _ => l_kind.bind fun _ => l_shut.bind fun _ => Loc.pure) (l_shut.bind fun _ => Loc.pure)
theorem l_primary : Loc fun L => pPrimary L (ex L) :=
  l_here.bind fun _ => Loc.ite (l_next.bind fun _ => Loc.pure) (Loc.ite (l_open.bind fun _ => he.bind fun _ => l_shut.bind fun _ => Loc.pure) (Loc.ite (l_made he) (Loc.ite (l_made he) (Loc.ite (l_made he) (Loc.ite (l_made he) (Loc.ite (l_made he)
    (l_kind.bind fun _ => l_is.bind fun _ => Loc.ite (l_call he) (l_is.bind fun _ => Loc.ite ((l_index he).bind fun _ => Loc.pure) Loc.pure))))))))
include hu
theorem l_unary : Loc fun L => pUnary L (ex L) (un L) := by
  have hs : ∀ kind, Loc fun L => pSign L (un L) kind := fun kind => l_here.bind fun _ => l_open.bind fun _ => hu.bind fun _ => l_up.bind fun _ => Loc.pure
  exact l_here.bind fun _ => Loc.ite (hs _) (Loc.ite (hs _) (Loc.ite (hs _) (l_primary he)))
end
theorem l_join {next : List Token → PM XE} (hn : Loc next) (k : Nat) : ∀ (n : Nat) (x : XE), Loc fun L => pJoin L (next L) k n x
  | 0, _ => l_fail
  | n + 1, x => l_here.bind fun t => Loc.opt (o := signOf t k) Loc.pure fun kind => l_next.bind fun _ => Loc.ite (l_kind.bind fun _ => l_join hn k n _) (hn.bind fun _ => l_join hn k n _)
theorem l_chain {un : List Token → PM XE} (hu : Loc un) : ∀ j, Loc fun L => pChain L (un L) j
  | 0 => hu
  | j + 1 => (l_chain hu j).bind fun _ => l_join (l_chain hu j) _ _ _
theorem l_expr {un : List Token → PM XE} (hu : Loc un) : Loc fun L => pExpr L (un L) :=
  (l_chain hu 6).bind fun _ => l_here.bind fun t => Loc.opt (o := signOf t 0) Loc.pure fun _ => l_next.bind fun _ => (l_chain hu 6).bind fun _ => Loc.pure
theorem l_un : ∀ n, Loc fun L => pUn L n
  | 0 => l_fail
  | n + 1 => l_unary (l_expr (l_un n)) (l_un n)
theorem l_ex (n : Nat) : Loc fun L => pEx L n := l_expr (l_un n)
theorem l_end (n : Nat) : Loc fun L => pEnd L n := (l_ex n).bind fun _ => l_take.bind fun _ => Loc.pure
theorem l_named (n pos : Nat) : Loc fun L => pNamed L n pos :=
  l_kind.bind fun _ => l_is.bind fun _ => Loc.ite ((l_call (l_ex _)).bind fun _ => l_take.bind fun _ => Loc.pure)
    (l_is.bind fun _ => Loc.ite ((l_index (l_ex _)).bind fun _ => l_take.bind fun _ => (l_end _).bind fun _ => Loc.pure) (l_take.bind fun _ => (l_end _).bind fun _ => Loc.pure))
theorem l_stmt {block : List Token → PM (List XS)} (hb : Loc block) (n : Nat) : Loc fun L => pStmt L (block L) n :=
  l_here.bind fun _ => l_maybe.bind fun _ => Loc.ite (l_kind.bind fun _ => l_take.bind fun _ => (l_end _).bind fun _ => Loc.pure)
    (l_maybe.bind fun _ => Loc.ite (l_label.bind fun _ => l_kind.bind fun _ => l_take.bind fun _ => l_kinds.bind fun _ => l_take.bind fun _ => Loc.pure)
    (l_maybe.bind fun _ => Loc.ite ((l_ex n).bind fun _ => hb.bind fun _ => l_maybe.bind fun _ => Loc.ite (hb.bind fun _ => Loc.pure) Loc.pure)
    (l_maybe.bind fun _ => Loc.ite (l_kind.bind fun _ => l_take.bind fun _ => (l_ex n).bind fun _ => l_take.bind fun _ => l_kind.bind fun _ => hb.bind fun _ => Loc.pure)
    (l_maybe.bind fun _ => Loc.ite ((l_end n).bind fun _ => Loc.pure) (l_named _ _)))))
theorem l_stmts {stmt : List Token → PM XS} (hs : Loc stmt) : ∀ (m : Nat) (l : List XS), Loc fun L => pStmts L (stmt L) m l
  | 0, _ => l_fail
  | m + 1, l => l_is.bind fun _ => Loc.ite Loc.pure (hs.bind fun _ => l_stmts hs m _)
theorem l_block : ∀ n, Loc fun L => pBlock L n
  | 0 => l_fail
  | n + 1 => l_open.bind fun _ => (l_stmts (l_stmt (l_block n) n) _ _).bind fun _ => l_shut.bind fun _ => Loc.pure
theorem l_func : Loc fun L => pFunc L :=
  l_take.bind fun _ => l_kind.bind fun _ => l_take.bind fun _ => (l_list l_param).bind fun _ => l_take.bind fun _ => l_maybe.bind fun _ =>
    Loc.ite (l_label.bind fun _ => l_scalar.bind fun _ => (l_block _).bind fun _ => Loc.pure) ((l_block _).bind fun _ => Loc.pure)
theorem l_funcs : ∀ (m : Nat) (l : List XF), Loc fun L => pFuncs L m l
  | 0, _ => l_fail
  | m + 1, l => l_here.bind fun _ => Loc.ite Loc.pure (l_func.bind fun _ => l_funcs m _)
end Go.Proofs.YtkeoalhglkfbkaaDoor

/-
  THE PLAIN LAW: a text that is cut at a blank or a line's end has the tokens ahead of it. No program in sight. No conditions.
-/
namespace Go.Proofs.YtkeoalhglkfbkaaDoor
open Go Hk

section
variable {c : UInt8} (hc : c = 10 ∨ c = 32)
include hc

end

/-! ### The tokens of a given text, by running -/
def skipF : Nat → List UInt8 → Nat → Option Nat
  | 0, _, _ => none
  | n + 1, s, a => if h : a < s.length then
      (if isBlank s[a] then skipF n s (a + 1) else if (s.drop a).take 2 = [47, 47] then skipF n s (a + max 1 (lineLen (s.drop a))) else some a) else some a
theorem skipF_eq : ∀ (n : Nat) (s : List UInt8) (a b : Nat), skipF n s a = some b → skipTo s a = b
  | 0, _, _, _, h => by cases h
  | n + 1, s, a, b, h => by
    unfold skipF at h
    rw [skipTo]
    split at h
    · rename_i hlt
      rw [dif_pos hlt]
      split at h
      · rename_i h1; rw [if_pos h1]; exact skipF_eq n s _ b h
      · rename_i h1
        rw [if_neg h1]
        split at h
        · rename_i h2; rw [if_pos h2]; exact skipF_eq n s _ b h
        · rename_i h2; rw [if_neg h2]; cases h; rfl
    · rename_i hlt; rw [dif_neg hlt]; cases h; rfl
def lexF : Nat → List UInt8 → Nat → List Token → Option (List Token × Nat × Nat)
  | 0, _, _, _ => none
  | n + 1, s, a, out => match skipF (s.length + 1) s a with
    | none => none
    | some b => if b < s.length then (match oneS (s.drop b) b with
        | none => some ([], 9, b)
        | some (t, k) => lexF n s (b + max 1 k) (out ++ [t])) else some (out ++ [⟨0, s.length, 0, []⟩], 0, 0)
theorem lexF_eq : ∀ (n : Nat) (s : List UInt8) (a : Nat) (out : List Token) (r : List Token × Nat × Nat), lexF n s a out = some r → lexFrom s a out = r
  | 0, _, _, _, _, h => by cases h
  | n + 1, s, a, out, r, h => by
    unfold lexF at h
    split at h
    · cases h
    · rename_i b hb
      have hs := skipF_eq _ _ _ _ hb
      split at h
      · rename_i hlt
        split at h
        · rename_i h1; cases h; exact lex_bad hs hlt h1
        · rename_i t k h1; exact (lex_step hs hlt h1 rfl).trans (lexF_eq n s _ _ r h)
      · rename_i hlt
        cases h
        exact lex_end (by rw [hs]; exact hlt)
theorem lexS_run {s : List UInt8} {r : List Token × Nat × Nat} (hs : s.length ≤ 65536) (h : lexF (s.length + 1) s 0 [] = some r) : lexS s = r := by
  unfold lexS
  rw [if_neg (by omega)]
  exact lexF_eq _ _ _ _ _ h
end Go.Proofs.YtkeoalhglkfbkaaDoor

/-
  The document's examples, by the evaluator. No conditions.
-/
namespace Go.Proofs.YtkeoalhglkfbkaaDoor
open Go Hk

def exA : List UInt8 := [102, 110, 32, 102, 40, 41, 32, 123, 32, 120, 32, 61, 32, 49, 32, 43, 32, 50, 32, 42, 32, 121, 59, 32, 125]
def exB : List UInt8 := [102, 110, 32, 102, 40, 41, 32, 123, 32, 120, 32, 61, 32, 97, 32, 60, 32, 98, 32, 60, 32, 99, 59, 32, 125]
def tkA : List Token := [⟨3, 0, 0, [102, 110]⟩, ⟨1, 3, 0, [102]⟩, ⟨4, 4, 0, [40]⟩, ⟨4, 5, 0, [41]⟩, ⟨4, 7, 0, [123]⟩, ⟨1, 9, 0, [120]⟩, ⟨4, 11, 0, [61]⟩, ⟨2, 13, 1, []⟩, ⟨4, 15, 0, [43]⟩, ⟨2, 17, 2, []⟩, ⟨4, 19, 0, [42]⟩, ⟨1, 21, 0, [121]⟩, ⟨4, 22, 0, [59]⟩, ⟨4, 24, 0, [125]⟩, ⟨0, 25, 0, []⟩]
def tkB : List Token := [⟨3, 0, 0, [102, 110]⟩, ⟨1, 3, 0, [102]⟩, ⟨4, 4, 0, [40]⟩, ⟨4, 5, 0, [41]⟩, ⟨4, 7, 0, [123]⟩, ⟨1, 9, 0, [120]⟩, ⟨4, 11, 0, [61]⟩, ⟨1, 13, 0, [97]⟩, ⟨4, 15, 0, [60]⟩, ⟨1, 17, 0, [98]⟩, ⟨4, 19, 0, [60]⟩, ⟨1, 21, 0, [99]⟩, ⟨4, 22, 0, [59]⟩, ⟨4, 24, 0, [125]⟩, ⟨0, 25, 0, []⟩]
def fA : XF := ⟨3, [102], [], false, ⟨0, 0, 0⟩, [.mk 3 9 0 [120] ⟨0, 0, 0⟩ [.mk 8 15 0 [] [.mk 1 13 1 [] [], .mk 10 19 0 [] [.mk 1 17 2 [] [], .mk 2 21 0 [121] []]]] [] [] false]⟩
theorem lexA : lexS exA = (tkA, 0, 0) := lexS_run (by decide) (by kernel_rfl)
theorem lexB : lexS exB = (tkB, 0, 0) := lexS_run (by decide) (by kernel_rfl)
theorem funsA : pFuncs tkA 131073 [] 0 0 = .ok [fA] 14 0 := by kernel_rfl
theorem funsB : pFuncs tkB 131073 [] 0 0 = .bad 10 19 10 1 := by kernel_rfl
theorem parseA : parseS exA = ([fA], 0, 0) := by
  unfold parseS; rw [lexA]; simp only [if_true, funsA]
theorem parseB : parseS exB = ([], 10, 19) := by
  unfold parseS; rw [lexB]; simp only [if_true, funsB]

theorem c36 (h : Heap) : KK 36 [] h = some (.ret (.bool true), h) := by
  refine callP_pure rfl rfl (evW_by (m36_eq _ _) ?_)
  have h1 := fun h => c33 exA h
  have h2 := fun h => c33 exB h
  rw [parseA] at h1
  rw [parseB] at h2
  simp only [exA, exB, List.map_cons, List.map_nil, Int.cast_ofNat_Int, fA, XF.cells] at h1 h2
  simp -implicitDefEqProofs [m36, h1, h2, aeqAgg, aeqAll, aeqK, aindexSl_lit, XS.cells, XE.cells, XE.rows, finR_zero]
end Go.Proofs.YtkeoalhglkfbkaaDoor

/-
  THE PLAIN LAW: a run of the parser ends at one of the tokens. No program in sight. No conditions.
-/
namespace Go.Proofs.YtkeoalhglkfbkaaDoor
open Go Hk

def InAt (L : List Token) {α : Type} (x : PM α) (a : Nat) : Prop := ∀ d, (x a d).idx < L.length
def PIn (L : List Token) {α : Type} (x : PM α) : Prop := ∀ a, a < L.length → InAt L x a

section
variable {L : List Token} {α β : Type}
theorem PIn.bind {x : PM α} {f : α → PM β} (hx : PIn L x) (hf : ∀ v, PIn L (f v)) : PIn L (x >>= f) := by
  intro a ha d
  have h1 := hx a ha d
  simp only [pm_bind, PM.bind]
  cases h : x a d with
  | ok v a' d' => rw [h] at h1; exact hf v a' h1 d'
  | bad e p a' d' => rw [h] at h1; exact h1
theorem PIn.pure {v : α} : PIn L (Pure.pure v : PM α) := fun _ ha _ => ha
theorem PIn.fail {e : Nat} : PIn L (pFail L e : PM α) := fun _ ha _ => ha
theorem PIn.ite {c : Prop} [Decidable c] {x y : PM α} (hx : PIn L x) (hy : PIn L y) : PIn L (if c then x else y) := by
  split
  · exact hx
  · exact hy
theorem InAt.ite {c : Prop} [Decidable c] {x y : PM α} {a : Nat} (hx : c → InAt L x a) (hy : ¬ c → InAt L y a) : InAt L (if c then x else y) a := by
  split
  · rename_i h; exact hx h
  · rename_i h; exact hy h
theorem InAt.here {f : Token → PM α} {a : Nat} (h : InAt L (f (tk L a)) a) : InAt L (pHere L >>= f) a := fun d => h d
theorem InAt.next {f : Unit → PM α} {a : Nat} (ha : a + 1 < L.length) (h : PIn L (f ())) : InAt L (pNext >>= f) a := fun d => h (a + 1) ha d
variable (hL : TokOk L)
include hL
section
variable {ex un : PM XE} (he : PIn L ex) (hu : PIn L un)
include he
include hu
end
end
end Go.Proofs.YtkeoalhglkfbkaaDoor

/-
  THE PLAIN LAW of SyntaxCuts: the error stays where it was. No program in sight. No conditions.
-/
namespace Go.Proofs.YtkeoalhglkfbkaaDoor
open Go Hk

theorem parse_err (s : List UInt8) : (parseS s).2.1 ≠ 0 → (parseS s).1 = [] := by
  unfold parseS
  by_cases h0 : (lexS s).2.1 = 0
  · rw [if_pos h0]
    cases pFuncs (lexS s).1 131073 [] 0 0 with
    | ok l a d => intro h; exact absurd rfl h
    | bad e p j d => intro _; rfl
  · rw [if_neg h0]; intro _; rfl

end Go.Proofs.YtkeoalhglkfbkaaDoor

/-
  What is the same, places so far apart: SameExprs, SameStmts, SameFunc of ref12. No conditions.
-/
namespace Go.Proofs.YtkeoalhglkfbkaaDoor
open Go Hk

/-- Places that lie so far apart, if that is asked. -/
def PosOk (far : Int) (q p : Nat) : Prop := far < 0 ∨ (0 ≤ far ∧ IntKind.i64.wrap ((p : Int) + far) = q)

mutual
def SimE (far : Int) : XE → XE → Prop
  | .mk k q n nm us, y => ∃ p vs, y = .mk k p n nm vs ∧ PosOk far q p ∧ us.length ≤ 1000000 ∧ SimEs far us vs
def SimEs (far : Int) : List XE → List XE → Prop
  | [], ys => ys = []
  | x :: r, ys => ∃ y s, ys = y :: s ∧ SimE far x y ∧ SimEs far r s
end
theorem SimEs.len {far : Int} : ∀ {xs ys : List XE}, SimEs far xs ys → ys.length = xs.length
  | [], ys, h => by simp only [SimEs] at h; subst h; rfl
  | x :: r, ys, h => by
    simp only [SimEs] at h
    obtain ⟨y, s, rfl, _, h2⟩ := h
    simp [h2.len]
theorem SimEs.get {far : Int} : ∀ {xs ys : List XE}, SimEs far xs ys → ∀ (i : Nat) (h : i < xs.length) (h' : i < ys.length), SimE far xs[i] ys[i]
  | [], ys, h, i, hi, _ => by simp at hi
  | x :: r, ys, h, i, hi, hi' => by
    simp only [SimEs] at h
    obtain ⟨y, s, rfl, h1, h2⟩ := h
    cases i with
    | zero => exact h1
    | succ i => exact h2.get i (by simpa using hi) (by simpa using hi')

theorem l155 (far : Int) (xs ys : List XE) (hs : SimEs far xs ys) (hx : xs.length ≤ 1000000)
    (ih : ∀ (i k p n : Nat) (nm : List UInt8) (us vs : List XE) (q : Nat), xs[i]? = some (XE.mk k q n nm us) → ys[i]? = some (XE.mk k p n nm vs) → us.length ≤ 1000000 → SimEs far us vs → ∀ h, KK 155 [.slice (us.map XE.cells) .no, .slice (vs.map XE.cells) .no, .int .i64 far] h = some (.ret (.bool true), h)) :
    ∀ (n i : Nat), xs.length < i + n → i ≤ xs.length →
    lpW (m155_l0 KK 0) ([.slice (xs.map XE.cells) .no, .slice (ys.map XE.cells) .no, .int .i64 far, .bool false, .int .i64 (i : Int)], []) =
      some (.exit 0, [.slice (xs.map XE.cells) .no, .slice (ys.map XE.cells) .no, .int .i64 far, .bool false, .int .i64 (xs.length : Int)], []) := by
  have hl := hs.len
  intro n
  induction n with
  | zero => intro i h1 h2; omega
  | succ n ihn =>
    intro i h1 h2
    rw [lpW_step]
    by_cases hi : i < xs.length
    · have hi' : i < ys.length := by omega
      have hg := hs.get i hi hi'
      have e1 : xs[i]? = some xs[i] := List.getElem?_eq_getElem hi
      have e2 : ys[i]? = some ys[i] := List.getElem?_eq_getElem hi'
      generalize xs[i] = x at hg e1
      generalize ys[i] = y at hg e2
      obtain ⟨k, q, m, nm, us⟩ := x
      simp only [SimE] at hg
      obtain ⟨p, vs, rfl, hp, hul, hv⟩ := hg
      have hc := ih i k p m nm us vs q e1 e2 hul hv
      have e1' : xs[i] = .mk k q m nm us := by rw [List.getElem?_eq_getElem hi] at e1; exact Option.some.inj e1
      have w1 := wrapS (a := i) (by omega)
      have hn := ihn (i + 1) (by omega) hi
      simp only [Int.natCast_add, Int.cast_ofNat_Int] at hn
      rcases hp with hf | ⟨hf, hw⟩
      · have hf' : ¬ 0 ≤ far := by omega
        simp -implicitDefEqProofs [m155_l0, hi, e1', e2, XE.cells, XE.rows_eq, hc, endR, w1, hf', hn]
      · simp -implicitDefEqProofs [m155_l0, hi, e1', e2, XE.cells, XE.rows_eq, hc, endR, w1, hf, hw, hn]
    · obtain rfl : i = xs.length := by omega
      simp -implicitDefEqProofs [m155_l0, endR]


theorem c155 (far : Int) (N : Nat) : ∀ (xs ys : List XE), SizeOf.sizeOf xs ≤ N → xs.length ≤ 1000000 → SimEs far xs ys → ∀ h, KK 155 [.slice (xs.map XE.cells) .no, .slice (ys.map XE.cells) .no, .int .i64 far] h = some (.ret (.bool true), h) := by
  induction N with
  | zero => intro xs ys hN; cases xs <;> simp at hN
  | succ N ih =>
    intro xs ys hN hx hs h
    refine callP_pure rfl rfl (evW_by (m155_eq _ _ _ _ _) ?_)
    have hl := hs.len
    have hlp := l155 far xs ys hs hx (fun i k p n nm us vs q e1 e2 hu hv h => ih us vs (by
      have := List.sizeOf_lt_of_mem (List.mem_of_getElem? e1)
      simp at this
      omega) hu hv h) (xs.length + 1) 0 (by omega) (Nat.zero_le _)
    simp only [Int.cast_ofNat_Int] at hlp
    simp -implicitDefEqProofs [m155, hl, hlp, finR_zero]

mutual
def SimS (far : Int) : XS → XS → Prop
  | .mk k q m nm ty us b e has, y => ∃ p vs b' e', y = .mk k p m nm ty vs b' e' has ∧ PosOk far q p ∧ us.length ≤ 1000000 ∧ b.length ≤ 1000000 ∧ e.length ≤ 1000000 ∧ SimEs far us vs ∧ SimSs far b b' ∧ SimSs far e e'
def SimSs (far : Int) : List XS → List XS → Prop
  | [], ys => ys = []
  | x :: r, ys => ∃ y s, ys = y :: s ∧ SimS far x y ∧ SimSs far r s
end
theorem SimSs.len {far : Int} : ∀ {xs ys : List XS}, SimSs far xs ys → ys.length = xs.length
  | [], ys, h => by simp only [SimSs] at h; subst h; rfl
  | x :: r, ys, h => by
    simp only [SimSs] at h
    obtain ⟨y, s, rfl, _, h2⟩ := h
    simp [h2.len]
theorem SimSs.get {far : Int} : ∀ {xs ys : List XS}, SimSs far xs ys → ∀ (i : Nat) (h : i < xs.length) (h' : i < ys.length), SimS far xs[i] ys[i]
  | [], ys, h, i, hi, _ => by simp at hi
  | x :: r, ys, h, i, hi, hi' => by
    simp only [SimSs] at h
    obtain ⟨y, s, rfl, h1, h2⟩ := h
    cases i with
    | zero => exact h1
    | succ i => exact h2.get i (by simpa using hi) (by simpa using hi')

set_option maxRecDepth 8000 in
theorem l79 (far : Int) (xs ys : List XS) (hs : SimSs far xs ys) (hx : xs.length ≤ 1000000)
    (ih : ∀ (i : Nat) x, xs[i]? = some x → ∀ us vs : List XS, SizeOf.sizeOf us < SizeOf.sizeOf x → us.length ≤ 1000000 → SimSs far us vs → ∀ h, KK 79 [.slice (us.map XS.cells) .no, .slice (vs.map XS.cells) .no, .int .i64 far] h = some (.ret (.bool true), h)) :
    ∀ (n i : Nat), xs.length < i + n → i ≤ xs.length →
    lpW (m79_l0 KK 0) ([.slice (xs.map XS.cells) .no, .slice (ys.map XS.cells) .no, .int .i64 far, .bool false, .int .i64 (i : Int)], []) =
      some (.exit 0, [.slice (xs.map XS.cells) .no, .slice (ys.map XS.cells) .no, .int .i64 far, .bool false, .int .i64 (xs.length : Int)], []) := by
  have hl := hs.len
  intro n
  induction n with
  | zero => intro i h1 h2; omega
  | succ n ihn =>
    intro i h1 h2
    rw [lpW_step]
    by_cases hi : i < xs.length
    · have hi' : i < ys.length := by omega
      have hg := hs.get i hi hi'
      have e1 : xs[i]? = some xs[i] := List.getElem?_eq_getElem hi
      have e2 : ys[i]? = some ys[i] := List.getElem?_eq_getElem hi'
      generalize xs[i] = x at hg e1
      generalize ys[i] = y at hg e2
      obtain ⟨k, q, m, nm, ty, us, b, e, has⟩ := x
      simp only [SimS] at hg
      obtain ⟨p, vs, b', e', rfl, hp, hul, hbl, hel, hv, hb, he⟩ := hg
      have hc := c155 far _ us vs (Nat.le_refl _) hul hv
      have hcb := ih i _ e1 b b' (by simp; omega) hbl hb
      have hce := ih i _ e1 e e' (by simp; omega) hel he
      have e1' : xs[i] = .mk k q m nm ty us b e has := by rw [List.getElem?_eq_getElem hi] at e1; exact Option.some.inj e1
      have w1 := wrapS (a := i) (by omega)
      have hn := ihn (i + 1) (by omega) hi
      simp only [Int.natCast_add, Int.cast_ofNat_Int] at hn
      rcases hp with hf | ⟨hf, hw⟩
      · have hf' : ¬ 0 ≤ far := by omega
        simp -implicitDefEqProofs [m79_l0, hi, e1', e2, XS.cells, XS.rows_eq, hc, hcb, hce, endR, w1, hf', hn, aeqAgg, aeqAll, aeqK]
      · simp -implicitDefEqProofs [m79_l0, hi, e1', e2, XS.cells, XS.rows_eq, hc, hcb, hce, endR, w1, hf, hw, hn, aeqAgg, aeqAll, aeqK]
    · obtain rfl : i = xs.length := by omega
      simp -implicitDefEqProofs [m79_l0, endR]

theorem c79 (far : Int) (N : Nat) : ∀ (xs ys : List XS), SizeOf.sizeOf xs ≤ N → xs.length ≤ 1000000 → SimSs far xs ys → ∀ h, KK 79 [.slice (xs.map XS.cells) .no, .slice (ys.map XS.cells) .no, .int .i64 far] h = some (.ret (.bool true), h) := by
  induction N with
  | zero => intro xs ys hN; cases xs <;> simp at hN
  | succ N ih =>
    intro xs ys hN hx hs h
    refine callP_pure rfl rfl (evW_by (m79_eq _ _ _ _ _) ?_)
    have hl := hs.len
    have hlp := l79 far xs ys hs hx (fun i x e1 us vs hlt hu hv h => ih us vs (by
      have := List.sizeOf_lt_of_mem (List.mem_of_getElem? e1)
      omega) hu hv h) (xs.length + 1) 0 (by omega) (Nat.zero_le _)
    simp only [Int.cast_ofNat_Int] at hlp
    simp -implicitDefEqProofs [m79, hl, hlp, finR_zero]
end Go.Proofs.YtkeoalhglkfbkaaDoor

/-
  SameFunc of ref12. No conditions.
-/
namespace Go.Proofs.YtkeoalhglkfbkaaDoor
open Go Hk

def SimP (far : Int) (x y : XP) : Prop := PosOk far x.pos y.pos ∧ x.name = y.name ∧ x.ty = y.ty ∧ x.out = y.out
def SimPs (far : Int) : List XP → List XP → Prop
  | [], ys => ys = []
  | x :: r, ys => ∃ y s, ys = y :: s ∧ SimP far x y ∧ SimPs far r s
structure SimF (far : Int) (f g : XF) : Prop where
  pos : PosOk far f.pos g.pos
  name : f.name = g.name
  has : f.has = g.has
  result : f.result = g.result
  plen : f.params.length ≤ 1000000
  params : SimPs far f.params g.params
  blen : f.body.length ≤ 1000000
  body : SimSs far f.body g.body
theorem SimPs.len {far : Int} : ∀ {xs ys : List XP}, SimPs far xs ys → ys.length = xs.length
  | [], ys, h => by simp only [SimPs] at h; subst h; rfl
  | x :: r, ys, h => by
    simp only [SimPs] at h
    obtain ⟨y, s, rfl, _, h2⟩ := h
    simp [h2.len]
theorem SimPs.get {far : Int} : ∀ {xs ys : List XP}, SimPs far xs ys → ∀ (i : Nat) (h : i < xs.length) (h' : i < ys.length), SimP far xs[i] ys[i]
  | [], ys, h, i, hi, _ => by simp at hi
  | x :: r, ys, h, i, hi, hi' => by
    simp only [SimPs] at h
    obtain ⟨y, s, rfl, h1, h2⟩ := h
    cases i with
    | zero => exact h1
    | succ i => exact h2.get i (by simpa using hi) (by simpa using hi')

def hF2 (f g : XF) : Heap := [.cells f.cells, .cells g.cells]
theorem l37 (far : Int) (f g : XF) (hpl : f.params.length ≤ 1000000) (hs : SimPs far f.params g.params) :
    ∀ (n i : Nat), f.params.length < i + n → i ≤ f.params.length →
    lpW (m37_l0 KK 2) ([.int .i64 far, .ptr 0 0, .ptr 1 0, .bool false, .int .i64 (i : Int)], hF2 f g) =
      some (.exit 0, [.int .i64 far, .ptr 0 0, .ptr 1 0, .bool false, .int .i64 (f.params.length : Int)], hF2 f g) := by
  have hl := hs.len
  obtain ⟨fp, fn, fps, fh, fr, fb⟩ := f
  obtain ⟨gp, gn, gps, gh, gr, gb⟩ := g
  simp only [] at hpl hs hl
  have htr : trunc 2 (hF2 ⟨fp, fn, fps, fh, fr, fb⟩ ⟨gp, gn, gps, gh, gr, gb⟩) = some (hF2 ⟨fp, fn, fps, fh, fr, fb⟩ ⟨gp, gn, gps, gh, gr, gb⟩) := by simp [hF2, trunc, XF.cells]
  have htr2 : ∀ cs ds, trunc 2 (hF2 ⟨fp, fn, fps, fh, fr, fb⟩ ⟨gp, gn, gps, gh, gr, gb⟩ ++ [.cells cs, .cells ds]) = some (hF2 ⟨fp, fn, fps, fh, fr, fb⟩ ⟨gp, gn, gps, gh, gr, gb⟩) := by intro cs ds; simp [hF2, trunc, XF.cells]
  have hsp : ∀ h, AVal.san1 2 h (.ptr 0 0) = .ptr 0 0 := fun h => san1_ptr (by omega)
  have hsp1 : ∀ h, AVal.san1 2 h (.ptr 1 0) = .ptr 1 0 := fun h => san1_ptr (by omega)
  simp only [hF2, XF.cells, List.cons_append, List.nil_append] at htr htr2 ⊢
  intro n
  induction n with
  | zero => intro i h1 h2; have h1 : fps.length < i + 0 := h1; omega
  | succ n ihn =>
    intro i h1 h2
    have h1 : fps.length < i + (n + 1) := h1
    have h2 : i ≤ fps.length := h2
    rw [lpW_step]
    by_cases hi : i < fps.length
    · have hi' : i < gps.length := by omega
      obtain ⟨g1, g2, g3, g4⟩ := hs.get i hi hi'
      have e1' : ∃ x, fps[i] = x := ⟨_, rfl⟩
      have e2 : gps[i]? = some gps[i] := List.getElem?_eq_getElem hi'
      generalize gps[i] = y at g1 g2 g3 g4 e2
      obtain ⟨⟨xp, xn, xt, xo⟩, e1'⟩ := e1'
      rw [e1'] at g1 g2 g3 g4
      obtain ⟨yp, yn, yt, yo⟩ := y
      simp only [] at g1 g2 g3 g4
      subst g2 g3 g4
      have w1 := wrapS (a := i) (by omega)
      have hn := ihn (i + 1) (by show fps.length < _; omega) hi
      simp only [Int.natCast_add, Int.cast_ofNat_Int] at hn
      rcases g1 with hf | ⟨hf, hw⟩
      · have hf' : ¬ 0 ≤ far := by omega
        simp -implicitDefEqProofs [m37_l0, hi, e1', e2, XP.cells, endR, w1, hf', hn, aeqAgg, aeqAll, aeqK, htr2, hsp, hsp1, hn, anewAt_eq, isFree]
      · simp -implicitDefEqProofs [m37_l0, hi, e1', e2, XP.cells, endR, w1, hf, hw, hn, aeqAgg, aeqAll, aeqK, htr2, hsp, hsp1, hn, anewAt_eq, isFree]
    · obtain rfl : i = fps.length := by omega
      simp -implicitDefEqProofs [m37_l0, endR, htr, hsp, hsp1]

theorem c37 (far : Int) (f g : XF) (hs : SimF far f g) (h : Heap) : KK 37 [.agg f.cells, .agg g.cells, .int .i64 far] h = some (.ret (.bool true), h) := by
  refine callP_pure rfl rfl (evW_by (m37_eq _ _ _ _ _) ?_)
  obtain ⟨fp, fn, fps, fh, fr, fb⟩ := f
  obtain ⟨gp, gn, gps, gh, gr, gb⟩ := g
  obtain ⟨hpos, hname, hhas, hres, hpl, hps, hbl, hb⟩ := hs
  simp only [] at hpos hname hhas hres hpl hps hbl hb
  subst hname hhas hres
  have hl := hps.len
  have hlp := l37 far ⟨fp, fn, fps, fh, fr, fb⟩ ⟨gp, fn, gps, fh, fr, gb⟩ hpl hps (fps.length + 1) 0 (by show fps.length < _; omega) (Nat.zero_le _)
  simp only [hF2, XF.cells, Int.cast_ofNat_Int] at hlp
  have hc := c79 far _ fb gb (Nat.le_refl _) hbl hb
  rcases hpos with hf | ⟨hf, hw⟩
  · have hf' : ¬ 0 ≤ far := by omega
    simp -implicitDefEqProofs [m37, XF.cells, hf', aeqAgg, aeqAll, aeqK, hl, hc, hlp, finR_zero]
  · simp -implicitDefEqProofs [m37, XF.cells, hf, hw, aeqAgg, aeqAll, aeqK, hl, hc, hlp, finR_zero]
end Go.Proofs.YtkeoalhglkfbkaaDoor

/-
  THE PLAIN LAW: tokens that lie further on are parsed to what lies further on. No program in sight. No conditions.
-/
namespace Go.Proofs.YtkeoalhglkfbkaaDoor
open Go Hk

def AllR {α : Type} (R : α → α → Prop) : List α → List α → Prop
  | [], ys => ys = []
  | x :: r, ys => ∃ y s, ys = y :: s ∧ R x y ∧ AllR R r s
theorem AllR.snoc {α : Type} {R : α → α → Prop} : ∀ {xs ys : List α} {x y : α}, AllR R xs ys → R x y → AllR R (xs ++ [x]) (ys ++ [y])
  | [], ys, x, y, h, hr => by
    have h : ys = [] := h
    subst h
    exact ⟨y, [], rfl, hr, rfl⟩
  | a :: r, ys, x, y, h, hr => by
    obtain ⟨b, s, rfl, h1, h2⟩ := h
    exact ⟨b, s ++ [y], rfl, h1, h2.snoc hr⟩
theorem AllR.app {α : Type} {R : α → α → Prop} : ∀ {xs ys us vs : List α}, AllR R xs ys → AllR R us vs → AllR R (xs ++ us) (ys ++ vs)
  | [], ys, us, vs, h, hr => by
    have h : ys = [] := h
    subst h
    exact hr
  | a :: r, ys, us, vs, h, hr => by
    obtain ⟨b, s, rfl, h1, h2⟩ := h
    exact ⟨b, s ++ vs, rfl, h1, h2.app hr⟩
theorem AllR.simEs {far : Int} : ∀ {xs ys : List XE}, AllR (SimE far) xs ys → SimEs far xs ys
  | [], _, h => by simp only [SimEs]; exact h
  | _ :: _, _, h => by
    obtain ⟨y, s, rfl, h1, h2⟩ := h
    simp only [SimEs]
    exact ⟨y, s, rfl, h1, h2.simEs⟩
theorem AllR.simSs {far : Int} : ∀ {xs ys : List XS}, AllR (SimS far) xs ys → SimSs far xs ys
  | [], _, h => by simp only [SimSs]; exact h
  | _ :: _, _, h => by
    obtain ⟨y, s, rfl, h1, h2⟩ := h
    simp only [SimSs]
    exact ⟨y, s, rfl, h1, h2.simSs⟩
theorem AllR.simPs {far : Int} : ∀ {xs ys : List XP}, AllR (SimP far) xs ys → SimPs far xs ys
  | [], _, h => h
  | _ :: _, _, h => by
    obtain ⟨y, s, rfl, h1, h2⟩ := h
    exact ⟨y, s, rfl, h1, h2.simPs⟩
/-- So many at most. -/
def Lots {α : Type} (R : α → α → Prop) (n : Nat) (xs ys : List α) : Prop := AllR R xs ys ∧ xs.length ≤ n

section
variable (L L' : List Token) (k far : Nat) {α β : Type}
def SAt (R : α → α → Prop) (x' x : PM α) (a : Nat) : Prop := ∀ d v a' d', x a d = .ok v a' d' → a' < L.length ∧ ∃ v', x' (k + a) d = .ok v' (k + a') d' ∧ R v' v
def SIn (R : α → α → Prop) (x' x : PM α) : Prop := ∀ a, a < L.length → SAt L k R x' x a
end

section
variable {L L' : List Token} {k far : Nat} {α β : Type}
theorem SIn.bind {R : α → α → Prop} {S : β → β → Prop} {x' x : PM α} {f' f : α → PM β} (hx : SIn L k R x' x) (hf : ∀ v' v, R v' v → SIn L k S (f' v') (f v)) : SIn L k S (x' >>= f') (x >>= f) := by
  intro a ha d v a' d' h
  simp only [pm_bind, PM.bind] at h ⊢
  cases h1 : x a d with
  | ok v1 a1 d1 =>
    rw [h1] at h
    obtain ⟨h2, v1', h3, h4⟩ := hx a ha d v1 a1 d1 h1
    obtain ⟨h5, v', h6, h7⟩ := hf v1' v1 h4 a1 h2 d1 v a' d' h
    refine ⟨h5, v', ?_, h7⟩
    rw [h3]; exact h6
  | bad e p a1 d1 => rw [h1] at h; cases h
theorem SIn.pure {R : α → α → Prop} {v' v : α} (h : R v' v) : SIn L k R (Pure.pure v' : PM α) (Pure.pure v) := fun a ha d w a' d' he => by
  cases he; exact ⟨ha, v', rfl, h⟩
theorem SIn.fail {R : α → α → Prop} {x' : PM α} {e : Nat} : SIn L k R x' (pFail L e) := fun a ha d w a' d' he => by cases he
theorem SIn.ite {R : α → α → Prop} {c : Prop} [Decidable c] {x' y' x y : PM α} (hx : SIn L k R x' x) (hy : SIn L k R y' y) : SIn L k R (if c then x' else y') (if c then x else y) := by
  split
  · exact hx
  · exact hy
theorem SAt.ite {R : α → α → Prop} {c : Prop} [Decidable c] {x' y' x y : PM α} {a : Nat} (hx : c → SAt L k R x' x a) (hy : ¬ c → SAt L k R y' y a) : SAt L k R (if c then x' else y') (if c then x else y) a := by
  split
  · rename_i h; exact hx h
  · rename_i h; exact hy h
theorem SIn.mono {R S : α → α → Prop} {x' x : PM α} (h : SIn L k R x' x) (hr : ∀ v' v, R v' v → S v' v) : SIn L k S x' x := fun a ha d v a' d' he => by
  obtain ⟨h1, v', h2, h3⟩ := h a ha d v a' d' he
  exact ⟨h1, v', h2, hr _ _ h3⟩

/-- L' has L's tokens from the k-th on, further on. -/
structure Far (L L' : List Token) (k far : Nat) : Prop where
  ok : TokOk L
  tk : ∀ i, i < L.length → tk L' (k + i) = shiftT far (tk L i)
  pos : ∀ i, i < L.length → (Go.Proofs.YtkeoalhglkfbkaaDoor.tk L i).pos ≤ 100000
  far : far ≤ 100000
def TokR (far : Nat) (t' t : Token) : Prop := t' = shiftT far t ∧ t.pos ≤ 100000
variable (hF : Far L L' k far)
include hF
theorem posOk {p : Nat} (hp : p ≤ 100000) : PosOk far (p + far) p := .inr ⟨by omega, by have := hF.far; rw [wrap64] <;> omega⟩
theorem s_tok {a : Nat} (ha : a < L.length) : TokR far (tk L' (k + a)) (tk L a) := ⟨hF.tk a ha, hF.pos a ha⟩
theorem s_here : SIn L k (TokR far) (pHere L') (pHere L) := fun a ha d v a' d' he => by
  cases he; exact ⟨ha, _, rfl, s_tok hF ha⟩
theorem SAt.here {R : β → β → Prop} {f' f : Token → PM β} {a : Nat} (ha : a < L.length) (h : TokR far (tk L' (k + a)) (tk L a) → SAt L k R (f' (tk L' (k + a))) (f (tk L a)) a) : SAt L k R (pHere L' >>= f') (pHere L >>= f) a := fun d => h (s_tok hF ha) d
omit hF in
theorem SAt.next {R : β → β → Prop} {f' f : Unit → PM β} {a : Nat} (ha : a + 1 < L.length) (h : SIn L k R (f' ()) (f ())) : SAt L k R (pNext >>= f') (pNext >>= f) a := fun d => by
  have := h (a + 1) ha d
  exact this
theorem s_isS {a : Nat} (ha : a < L.length) {w : List UInt8} : isS (tk L' (k + a)) w = isS (tk L a) w := by rw [hF.tk a ha]; rfl
theorem s_is {w : List UInt8} : SIn L k Eq (pIs L' w) (pIs L w) := fun a ha d v a' d' he => by
  cases he; exact ⟨ha, _, rfl, s_isS hF ha⟩
omit hF in
theorem s_up : SIn L k Eq pUp pUp := fun a ha d v a' d' he => by cases he; exact ⟨ha, _, rfl, rfl⟩
theorem s_maybe {w : List UInt8} : SIn L k Eq (pMaybe L' w) (pMaybe L w) := fun a ha d v a' d' he => by
  simp only [pMaybe] at he ⊢
  rw [s_isS hF ha]
  cases h : isS (tk L a) w
  · rw [h] at he; cases he; exact ⟨ha, _, rfl, rfl⟩
  · rw [h] at he; cases he; exact ⟨isS_lt hF.ok ha h, _, rfl, rfl⟩
theorem s_take {w : List UInt8} : SIn L k Eq (pTake L' w) (pTake L w) := fun a ha d v a' d' he => by
  simp only [pTake] at he ⊢
  rw [s_isS hF ha]
  cases h : isS (tk L a) w
  · rw [h] at he; cases he
  · rw [h] at he; cases he; exact ⟨isS_lt hF.ok ha h, _, rfl, trivial⟩
theorem s_shut {w : List UInt8} : SIn L k Eq (pShut L' w) (pShut L w) := fun a ha d v a' d' he => by
  simp only [pShut] at he ⊢
  rw [s_isS hF ha]
  cases h : isS (tk L a) w
  · rw [h] at he; cases he
  · rw [h] at he; cases he; exact ⟨isS_lt hF.ok ha h, _, rfl, trivial⟩
theorem s_open {w : List UInt8} : SIn L k Eq (pOpen L' w) (pOpen L w) := fun a ha d v a' d' he => by
  simp only [pOpen] at he ⊢
  rw [s_isS hF ha]
  cases h : isS (tk L a) w
  · rw [h] at he; cases he
  · rw [h] at he
    by_cases h1 : d = 64
    · simp only [h1, if_true] at he; cases he
    · simp only [h1, if_true, if_false] at he ⊢
      cases he; exact ⟨isS_lt hF.ok ha h, _, rfl, trivial⟩
theorem s_kind {n : Nat} (hn : n ≠ 0) : SIn L k (TokR far) (pKind L' n) (pKind L n) := fun a ha d v a' d' he => by
  simp only [pKind] at he ⊢
  have h1 := hF.tk a ha
  have h2 : (tk L' (k + a)).kind = (tk L a).kind := by rw [h1]; rfl
  rw [h2]
  by_cases h : (tk L a).kind = n
  · rw [if_pos h] at he ⊢; cases he; exact ⟨kind_lt hF.ok ha hn h, _, rfl, s_tok hF ha⟩
  · rw [if_neg h] at he; cases he
theorem s_label : SIn L k Eq (pLabel L') (pLabel L) := fun a ha d v a' d' he => by
  simp only [pLabel] at he ⊢
  rw [s_isS hF ha, s_isS hF ha]
  cases h : isS (tk L a) secS
  · rw [h] at he
    cases h1 : isS (tk L a) pubS
    · rw [h1] at he; cases he
    · rw [h1] at he; cases he; exact ⟨isS_lt hF.ok ha h1, _, rfl, rfl⟩
  · rw [h] at he; cases he; exact ⟨isS_lt hF.ok ha h, _, rfl, rfl⟩
theorem s_scalar {l : Nat} : SIn L k Eq (pScalar L' l) (pScalar L l) := fun a ha d v a' d' he => by
  simp only [pScalar] at he ⊢
  rw [s_isS hF ha, s_isS hF ha]
  cases h : isS (tk L a) maskS
  · rw [h] at he
    cases h1 : isS (tk L a) u32S
    · rw [h1] at he; cases he
    · rw [h1] at he; cases he; exact ⟨isS_lt hF.ok ha h1, _, rfl, rfl⟩
  · rw [h] at he; cases he; exact ⟨isS_lt hF.ok ha h, _, rfl, rfl⟩
theorem s_many : SIn L k Eq (pMany L') (pMany L) :=
  (s_take hF).bind fun _ _ _ => (s_here hF).bind fun t' t ht => by
    obtain ⟨rfl, hp⟩ := ht
    exact SIn.ite (c := t.kind = 2 ∧ t.num = 0) SIn.fail ((s_kind hF (by decide)).bind fun t' t ht => by
      obtain ⟨rfl, hp⟩ := ht
      exact (s_take hF).bind fun _ _ _ => SIn.pure rfl)
theorem s_kinds {l : Nat} : SIn L k Eq (pKinds L' l) (pKinds L l) :=
  (s_maybe hF).bind fun _ b hb => by
    subst hb
    exact SIn.ite ((s_many hF).bind fun _ n hn => by subst hn; exact SIn.pure rfl) ((s_scalar hF).bind fun _ t ht => by
      subst ht
      exact SIn.ite ((s_is hF).bind fun _ b hb => by
        subst hb
        exact SIn.ite ((s_many hF).bind fun _ n hn => by subst hn; exact SIn.pure rfl) (SIn.pure rfl)) (SIn.pure rfl))
theorem s_param : SIn L k (SimP far) (pParam L') (pParam L) :=
  (s_maybe hF).bind fun _ out hb => by
    subst hb
    exact (s_label hF).bind fun _ l hl => by
      subst hl
      exact (s_kind hF (by decide)).bind fun _ name hn => by
        obtain ⟨rfl, hp⟩ := hn
        exact (s_take hF).bind fun _ _ _ => (s_kinds hF).bind fun _ ty ht => by
          subst ht
          exact SIn.pure ⟨posOk hF hp, rfl, rfl, rfl⟩
theorem s_more {R : α → α → Prop} {one' one : PM α} (h : SIn L k R one' one) : ∀ (n m : Nat) (l' l : List α), Lots R m l' l → SIn L k (Lots R (m + n)) (pMore L' one' n l') (pMore L one n l)
  | 0, _, _, _, _ => SIn.fail
  | n + 1, m, l', l, hl => h.bind fun x' x hx => (s_maybe hF).bind fun _ b hb => by
    subst hb
    have hl2 : Lots R (m + 1) (l' ++ [x']) (l ++ [x]) := ⟨hl.1.snoc hx, by have := hl.2; simp; omega⟩
    exact SIn.ite ((s_more h n _ _ _ hl2).mono fun v' v hv => ⟨hv.1, by have := hv.2; omega⟩) (SIn.pure ⟨hl2.1, by have := hl2.2; omega⟩)
theorem s_list {R : α → α → Prop} {one' one : PM α} {w : List UInt8} (h : SIn L k R one' one) : SIn L k (Lots R 1000000) (pList L' w one') (pList L w one) :=
  (s_is hF).bind fun _ b hb => by
    subst hb
    exact SIn.ite (SIn.pure ⟨rfl, by simp⟩) ((s_more hF h 131073 0 [] [] ⟨rfl, by simp⟩).mono fun v' v hv => ⟨hv.1, by have := hv.2; omega⟩)
section
variable {ex' ex un' un : PM XE} (he : SIn L k (SimE far) ex' ex) (hu : SIn L k (SimE far) un' un)
include he
theorem s_index : SIn L k (Lots (SimE far) 1) (pIndex L' ex') (pIndex L ex) :=
  (s_open hF).bind fun _ _ _ => he.bind fun x' x hx => (s_shut hF).bind fun _ _ _ => SIn.pure ⟨⟨x, [], rfl, hx, rfl⟩, by simp⟩
theorem s_call {t' t : Token} (ht : TokR far t' t) : SIn L k (SimE far) (pCall L' ex' t') (pCall L ex t) :=
  (s_open hF).bind fun _ _ _ => (s_list hF he).bind fun l' l hl => (s_shut hF).bind fun _ _ _ => by
    obtain ⟨rfl, hp⟩ := ht
    exact SIn.pure (by simp only [SimE]; exact ⟨_, _, rfl, posOk hF hp, hl.2, hl.1.simEs⟩)
theorem s_args : ∀ (n m : Nat) (b : Bool) (l' l : List XE), Lots (SimE far) m l' l → SIn L k (Lots (SimE far) (m + n)) (pArgs L' ex' n b l') (pArgs L ex n b l)
  | 0, _, _, _, _, hl => SIn.pure hl
  | n + 1, m, b, l', l, hl => by
    have h1 : ∀ _ _ : Unit, SIn L k (Lots (SimE far) (m + (n + 1))) (do let x ← ex'; pArgs L' ex' n false (l' ++ [x]) : PM (List XE)) (do let x ← ex; pArgs L ex n false (l ++ [x]) : PM (List XE)) := fun _ _ => he.bind fun x' x hx =>
      (s_args n (m + 1) false (l' ++ [x']) (l ++ [x]) ⟨hl.1.snoc hx, by have := hl.2; simp; omega⟩).mono fun v' v hv => ⟨hv.1, by have := hv.2; omega⟩
    cases b
    · exact (s_take hF).bind fun u v _ => h1 u v
    · exact SIn.bind (x' := (Pure.pure PUnit.unit : PM PUnit)) (x := (Pure.pure PUnit.unit : PM PUnit)) (R := fun _ _ => True) (SIn.pure trivial) fun u v _ => h1 u v
theorem s_made {kind many a : Nat} {number : Bool} (hm : many ≤ 3) (h0 : a < L.length) (ha : a + 1 < L.length) : SAt L k (SimE far) (pMade L' ex' kind many number) (pMade L ex kind many number) a :=
  SAt.here hF h0 fun ht => SAt.next ha ((s_open hF).bind fun _ _ _ => (s_args hF he _ 0 _ [] [] ⟨rfl, by simp⟩).bind fun l' l hl => by
    have hp := ht.2
    have e : (tk L' (k + a)).pos = (tk L a).pos + far := by rw [ht.1]; rfl
    exact SIn.ite ((s_take hF).bind fun _ _ _ => (s_kind hF (by decide)).bind fun n' n hn => (s_shut hF).bind fun _ _ _ => by
        obtain ⟨rfl, _⟩ := hn
        exact SIn.pure (by simp only [SimE]; rw [e]; exact ⟨_, _, rfl, posOk hF hp, by have := hl.2; omega, hl.1.simEs⟩))
      ((s_shut hF).bind fun _ _ _ => SIn.pure (by simp only [SimE]; rw [e]; exact ⟨_, _, rfl, posOk hF hp, by have := hl.2; omega, hl.1.simEs⟩)))
end
section
variable {ex' ex un' un : PM XE} (he : SIn L k (SimE far) ex' ex) (hu : SIn L k (SimE far) un' un)
include he
theorem s_primary : SIn L k (SimE far) (pPrimary L' ex') (pPrimary L ex) := fun a ha => SAt.here hF ha fun ht => by
  have e : (tk L' (k + a)) = shiftT far (tk L a) := ht.1
  have hp := ht.2
  have hl := hF.ok
  simp only [e]
  exact SAt.ite (fun h => SAt.next (kind_lt (k := 2) hl ha (by decide) h) (SIn.pure (by simp only [SimE, SimEs]; exact ⟨_, _, rfl, posOk hF hp, by simp, rfl⟩))) fun _ =>
    SAt.ite (fun _ => ((s_open hF).bind fun _ _ _ => he.bind fun _ _ hx => (s_shut hF).bind fun _ _ _ => SIn.pure hx) a ha) fun _ =>
    SAt.ite (fun h => s_made hF he (by omega) ha (isS_lt hl ha h)) fun _ => SAt.ite (fun h => s_made hF he (by omega) ha (isS_lt hl ha h)) fun _ => SAt.ite (fun h => s_made hF he (by omega) ha (isS_lt hl ha h)) fun _ =>
    SAt.ite (fun h => s_made hF he (by omega) ha (isS_lt hl ha h)) fun _ => SAt.ite (fun h => s_made hF he (by omega) ha (isS_lt hl ha h)) fun _ =>
    ((s_kind hF (by decide)).bind fun _ _ _ => (s_is hF).bind fun _ b hb => by
      subst hb
      exact SIn.ite (s_call hF he ⟨rfl, hp⟩) ((s_is hF).bind fun _ b hb => by
        subst hb
        exact SIn.ite ((s_index hF he).bind fun l' l hl => SIn.pure (by simp only [SimE]; exact ⟨_, _, rfl, posOk hF hp, by have := hl.2; omega, hl.1.simEs⟩))
          (SIn.pure (by simp only [SimE, SimEs]; exact ⟨_, _, rfl, posOk hF hp, by simp, rfl⟩)))) a ha
include hu
theorem s_unary : SIn L k (SimE far) (pUnary L' ex' un') (pUnary L ex un) := by
  have hs : ∀ kind, SIn L k (SimE far) (pSign L' un' kind) (pSign L un kind) := fun kind => (s_here hF).bind fun _ t ht => by
    obtain ⟨rfl, hp⟩ := ht
    exact (s_open hF (w := t.text)).bind fun _ _ _ => hu.bind fun x' x hx => s_up.bind fun _ _ _ => SIn.pure (by simp only [SimE, SimEs]; exact ⟨_, _, rfl, posOk hF hp, by simp, x, [], rfl, hx, rfl⟩)
  exact (s_here hF).bind fun _ t ht => by
    obtain ⟨rfl, hp⟩ := ht
    exact SIn.ite (hs _) (SIn.ite (hs _) (SIn.ite (hs _) (s_primary hF he)))
end
theorem s_join {next' next : PM XE} (hn : SIn L k (SimE far) next' next) (j : Nat) : ∀ (n : Nat) (x' x : XE), SimE far x' x → SIn L k (SimE far) (pJoin L' next' j n x') (pJoin L next j n x)
  | 0, _, _, _ => SIn.fail
  | n + 1, x', x, hx => fun a ha => SAt.here hF ha fun ht => by
    have e : (tk L' (k + a)) = shiftT far (tk L a) := ht.1
    have hp := ht.2
    have e2 : signOf (shiftT far (tk L a)) j = signOf (tk L a) j := rfl
    simp only [e]
    rw [e2]
    cases hs : signOf (tk L a) j with
    | none => exact SIn.pure hx a ha
    | some kind => exact SAt.next (kind_lt (k := 4) hF.ok ha (by decide) (signOf_kind hs)) (SIn.ite ((s_kind hF (by decide)).bind fun _ c hc => by
        obtain ⟨rfl, _⟩ := hc
        exact s_join hn j n _ _ (by simp only [SimE, SimEs]; exact ⟨_, _, rfl, posOk hF hp, by simp, x, [], rfl, hx, rfl⟩))
        (hn.bind fun y' y hy => s_join hn j n _ _ (by simp only [SimE, SimEs]; exact ⟨_, _, rfl, posOk hF hp, by simp, x, [y], rfl, hx, y, [], rfl, hy, rfl⟩)))
theorem s_chain {un' un : PM XE} (hu : SIn L k (SimE far) un' un) : ∀ j, SIn L k (SimE far) (pChain L' un' j) (pChain L un j)
  | 0 => hu
  | j + 1 => (s_chain hu j).bind fun _ _ hx => s_join hF (s_chain hu j) _ _ _ _ hx
theorem s_expr {un' un : PM XE} (hu : SIn L k (SimE far) un' un) : SIn L k (SimE far) (pExpr L' un') (pExpr L un) :=
  (s_chain hF hu 6).bind fun x' x hx => fun a ha => SAt.here hF ha fun ht => by
    have e : (tk L' (k + a)) = shiftT far (tk L a) := ht.1
    have hp := ht.2
    have e2 : signOf (shiftT far (tk L a)) 0 = signOf (tk L a) 0 := rfl
    simp only [e]
    rw [e2]
    cases hs : signOf (tk L a) 0 with
    | none => exact SIn.pure hx a ha
    | some kind => exact SAt.next (kind_lt (k := 4) hF.ok ha (by decide) (signOf_kind hs)) ((s_chain hF hu 6).bind fun y' y hy => SIn.pure (by
        simp only [SimE, SimEs]; exact ⟨_, _, rfl, posOk hF hp, by simp, x, [y], rfl, hx, y, [], rfl, hy, rfl⟩))
theorem s_un : ∀ n, SIn L k (SimE far) (pUn L' n) (pUn L n)
  | 0 => SIn.fail
  | n + 1 => s_unary hF (s_expr hF (s_un n)) (s_un n)
theorem s_ex (n : Nat) : SIn L k (SimE far) (pEx L' n) (pEx L n) := s_expr hF (s_un hF n)
theorem s_end (n : Nat) : SIn L k (Lots (SimE far) 1) (pEnd L' n) (pEnd L n) := (s_ex hF n).bind fun _ x hx => (s_take hF).bind fun _ _ _ => SIn.pure ⟨⟨x, [], rfl, hx, rfl⟩, by simp⟩
end
end Go.Proofs.YtkeoalhglkfbkaaDoor

/-
  THE PLAIN LAW: statements and functions that lie further on. No program in sight. No conditions.
-/
namespace Go.Proofs.YtkeoalhglkfbkaaDoor
open Go Hk

section
variable {L L' : List Token} {k far : Nat} (hF : Far L L' k far)
include hF

theorem s_named (n : Nat) {pos : Nat} (hp : pos ≤ 100000) : SIn L k (SimS far) (pNamed L' n (pos + far)) (pNamed L n pos) :=
  (s_kind hF (by decide)).bind fun _ name hn => by
    obtain ⟨rfl, hnp⟩ := hn
    exact (s_is hF).bind fun _ b hb => by
      subst hb
      exact SIn.ite ((s_call hF (s_ex hF _) ⟨rfl, hnp⟩).bind fun c' c hc => (s_take hF).bind fun _ _ _ => SIn.pure (by
          simp only [SimS, SimEs, SimSs]; exact ⟨_, _, _, _, rfl, posOk hF hp, by simp, by simp, by simp, ⟨c, [], rfl, hc, rfl⟩, rfl, rfl⟩))
        ((s_is hF).bind fun _ b hb => by
          subst hb
          exact SIn.ite ((s_index hF (s_ex hF _)).bind fun i' i hi => (s_take hF).bind fun _ _ _ => (s_end hF n).bind fun l' l hl => by
              exact SIn.pure (by
                simp only [SimS, SimSs]
                exact ⟨_, _, _, _, rfl, posOk hF hp, by have h1 := hl.2; have h2 := hi.2; simp; omega, by simp, by simp, (hi.1.app hl.1).simEs, rfl, rfl⟩))
            ((s_take hF).bind fun _ _ _ => (s_end hF n).bind fun l' l hl => SIn.pure (by
              simp only [SimS, SimSs]; exact ⟨_, _, _, _, rfl, posOk hF hp, by have := hl.2; omega, by simp, by simp, hl.1.simEs, rfl, rfl⟩)))
theorem s_stmt {block' block : PM (List XS)} (hb : SIn L k (Lots (SimS far) 1000000) block' block) (n : Nat) : SIn L k (SimS far) (pStmt L' block' n) (pStmt L block n) :=
  (s_here hF).bind fun _ t ht => by
    obtain ⟨rfl, hp⟩ := ht
    exact (s_maybe hF).bind fun _ b hb1 => by
      subst hb1
      exact SIn.ite ((s_kind hF (by decide)).bind fun _ name hn => by
        obtain ⟨rfl, _⟩ := hn
        exact (s_take hF).bind fun _ _ _ => (s_end hF n).bind fun l' l hl => SIn.pure (by
          simp only [SimS, SimSs]; exact ⟨_, _, _, _, rfl, posOk hF hp, by have := hl.2; omega, by simp, by simp, hl.1.simEs, rfl, rfl⟩))
        ((s_maybe hF).bind fun _ b hb1 => by
        subst hb1
        exact SIn.ite ((s_label hF).bind fun _ lab hlab => by
          subst hlab
          exact (s_kind hF (by decide)).bind fun _ name hn => by
            obtain ⟨rfl, _⟩ := hn
            exact (s_take hF).bind fun _ _ _ => (s_kinds hF).bind fun _ ty hty => by
              subst hty
              exact (s_take hF).bind fun _ _ _ => SIn.pure (by
                simp only [SimS, SimEs, SimSs]; exact ⟨_, _, _, _, rfl, posOk hF hp, by simp, by simp, by simp, rfl, rfl, rfl⟩))
          ((s_maybe hF).bind fun _ b hb1 => by
          subst hb1
          exact SIn.ite ((s_ex hF n).bind fun x' x hx => hb.bind fun b' b hbb => (s_maybe hF).bind fun _ b1 hb1 => by
            subst hb1
            exact SIn.ite (hb.bind fun e' e hee => SIn.pure (by
                simp only [SimS, SimEs]; exact ⟨_, _, _, _, rfl, posOk hF hp, by simp, hbb.2, hee.2, ⟨x, [], rfl, hx, rfl⟩, hbb.1.simSs, hee.1.simSs⟩))
              (SIn.pure (by
                simp only [SimS, SimEs, SimSs]; exact ⟨_, _, _, _, rfl, posOk hF hp, by simp, hbb.2, by simp, ⟨x, [], rfl, hx, rfl⟩, hbb.1.simSs, rfl⟩)))
            ((s_maybe hF).bind fun _ b hb1 => by
            subst hb1
            exact SIn.ite ((s_kind hF (by decide)).bind fun _ name hn => by
              obtain ⟨rfl, _⟩ := hn
              exact (s_take hF).bind fun _ _ _ => (s_ex hF n).bind fun x' x hx => (s_take hF).bind fun _ _ _ => (s_kind hF (by decide)).bind fun _ m hm => by
                obtain ⟨rfl, _⟩ := hm
                exact hb.bind fun b' b hbb => SIn.pure (by
                  simp only [SimS, SimEs, SimSs]; exact ⟨_, _, _, _, rfl, posOk hF hp, by simp, hbb.2, by simp, ⟨x, [], rfl, hx, rfl⟩, hbb.1.simSs, rfl⟩))
              ((s_maybe hF).bind fun _ b hb1 => by
              subst hb1
              exact SIn.ite ((s_end hF n).bind fun l' l hl => SIn.pure (by
                  simp only [SimS, SimSs]; exact ⟨_, _, _, _, rfl, posOk hF hp, by have := hl.2; omega, by simp, by simp, hl.1.simEs, rfl, rfl⟩))
                (s_named hF n hp)))))
theorem s_stmts {stmt' stmt : PM XS} (hs : SIn L k (SimS far) stmt' stmt) : ∀ (n m : Nat) (l' l : List XS), Lots (SimS far) m l' l → SIn L k (Lots (SimS far) (m + n)) (pStmts L' stmt' n l') (pStmts L stmt n l)
  | 0, _, _, _, _ => SIn.fail
  | n + 1, m, l', l, hl => (s_is hF).bind fun _ b hb => by
    subst hb
    exact SIn.ite (SIn.pure ⟨hl.1, by have := hl.2; omega⟩) (hs.bind fun x' x hx =>
      (s_stmts hs n (m + 1) (l' ++ [x']) (l ++ [x]) ⟨hl.1.snoc hx, by have := hl.2; simp; omega⟩).mono fun v' v hv => ⟨hv.1, by have := hv.2; omega⟩)
theorem s_block : ∀ n, SIn L k (Lots (SimS far) 1000000) (pBlock L' n) (pBlock L n)
  | 0 => SIn.fail
  | n + 1 => (s_open hF).bind fun _ _ _ => (s_stmts hF (s_stmt hF (s_block n) n) 131073 0 [] [] ⟨rfl, by simp⟩).bind fun l' l hl => (s_shut hF).bind fun _ _ _ => SIn.pure ⟨hl.1, by have := hl.2; omega⟩
theorem s_func : SIn L k (SimF far) (pFunc L') (pFunc L) :=
  (s_take hF).bind fun _ _ _ => (s_kind hF (by decide)).bind fun _ name hn => by
    obtain ⟨rfl, hp⟩ := hn
    exact (s_take hF).bind fun _ _ _ => (s_list hF (s_param hF)).bind fun ps' ps hps => (s_take hF).bind fun _ _ _ => (s_maybe hF).bind fun _ b hb => by
      subst hb
      exact SIn.ite ((s_label hF).bind fun _ l hl => by
          subst hl
          exact (s_scalar hF).bind fun _ ty hty => by
            subst hty
            exact (s_block hF 65).bind fun b' b hb => SIn.pure ⟨posOk hF hp, rfl, rfl, rfl, hps.2, hps.1.simPs, hb.2, hb.1.simSs⟩)
        ((s_block hF 65).bind fun b' b hb => SIn.pure ⟨posOk hF hp, rfl, rfl, rfl, hps.2, hps.1.simPs, hb.2, hb.1.simSs⟩)
end
end Go.Proofs.YtkeoalhglkfbkaaDoor

/-
  THE PLAIN LAW: the functions of two texts, one behind the other. No program in sight. No conditions.
-/
namespace Go.Proofs.YtkeoalhglkfbkaaDoor
open Go Hk

/-- A run that ends well looks at the tokens before its end alone. -/
structure LocS {α : Type} (x : List Token → PM α) : Prop where
  run : ∀ L L' a d v a' d', x L a d = .ok v a' d' → (∀ i, i < a' → tk L' i = tk L i) → x L' a d = .ok v a' d'
  lt : ∀ L a d v a' d', x L a d = .ok v a' d' → a < a'
theorem LocS.bind {α β : Type} {x : List Token → PM α} {f : List Token → α → PM β} (hx : Loc x) (hf : ∀ v, LocS fun L => f L v) : LocS fun L => x L >>= f L where
  run := fun L L' a d v a' d' h ht => by
    have h2 := hx.loc L L' a d
    simp only [pm_bind, PM.bind] at h ⊢
    cases h1 : x L a d with
    | ok v1 a1 d1 =>
      rw [h1] at h h2
      have h3 := (hf v1).lt _ _ _ _ _ _ h
      rw [h2 fun i hi => ht i (Nat.lt_of_le_of_lt hi h3)]
      exact (hf v1).run _ _ _ _ _ _ _ h ht
    | bad e p a1 d1 => rw [h1] at h; cases h
  lt := fun L a d v a' d' h => by
    have h2 := hx.mono L a d
    simp only [pm_bind, PM.bind] at h
    cases h1 : x L a d with
    | ok v1 a1 d1 =>
      rw [h1] at h h2
      exact Nat.lt_of_le_of_lt h2 ((hf v1).lt _ _ _ _ _ _ h)
    | bad e p a1 d1 => rw [h1] at h; cases h
theorem LocS.map {α β : Type} {x : List Token → PM α} {f : α → β} (hx : LocS x) : LocS fun L => x L >>= fun v => (Pure.pure (f v) : PM β) where
  run := fun L L' a d v a' d' h ht => by
    simp only [pm_bind, PM.bind] at h ⊢
    cases h1 : x L a d with
    | ok v1 a1 d1 =>
      rw [h1] at h
      cases h
      rw [hx.run _ _ _ _ _ _ _ h1 ht]; rfl
    | bad e p a1 d1 => rw [h1] at h; cases h
  lt := fun L a d v a' d' h => by
    simp only [pm_bind, PM.bind] at h
    cases h1 : x L a d with
    | ok v1 a1 d1 =>
      rw [h1] at h
      cases h
      exact hx.lt _ _ _ _ _ _ h1
    | bad e p a1 d1 => rw [h1] at h; cases h
theorem LocS.ite {α : Type} {c : Prop} [Decidable c] {x y : List Token → PM α} (hx : LocS x) (hy : LocS y) : LocS fun L => if c then x L else y L := by
  by_cases h : c
  · simp only [h, if_true]; exact hx
  · simp only [h, if_false]; exact hy
theorem ls_shut {w : List UInt8} : LocS fun L => pShut L w where
  run := fun L L' a d v a' d' h ht => by
    simp only [pShut] at h ⊢
    cases h1 : isS (tk L a) w
    · rw [h1] at h; cases h
    · rw [h1] at h; cases h
      rw [ht a (Nat.lt_succ_self a), h1]; rfl
  lt := fun L a d v a' d' h => by
    simp only [pShut] at h
    cases h1 : isS (tk L a) w
    · rw [h1] at h; cases h
    · rw [h1] at h; cases h; exact Nat.lt_succ_self a
theorem ls_block : ∀ n, LocS fun L => pBlock L n
  | 0 => ⟨fun _ _ _ _ _ _ _ h => by (cases h), fun _ _ _ _ _ _ h => by (cases h)⟩
  | n + 1 => LocS.bind l_open fun _ => LocS.bind (l_stmts (l_stmt (l_block n) n) _ _) fun l => LocS.map ls_shut
theorem ls_func : LocS fun L => pFunc L :=
  LocS.bind l_take fun _ => LocS.bind l_kind fun name => LocS.bind l_take fun _ => LocS.bind (l_list l_param) fun ps => LocS.bind l_take fun _ => LocS.bind l_maybe fun _ =>
    LocS.ite (LocS.bind l_label fun _ => LocS.bind l_scalar fun _ => LocS.map (ls_block 65)) (LocS.map (ls_block 65))

/-- The functions of the first tokens, ahead of others. -/
theorem funcs_ahead {L L' : List Token} (hL : TokOk L) {N : Nat} (hN : N + 1 = L.length) (hz : ∀ i, i < N → (tk L i).kind ≠ 0) (ht : ∀ i, i < N → tk L' i = tk L i) :
    ∀ (m : Nat) (l : List XF) (a d : Nat) (r : List XF) (a' d' : Nat), a ≤ N → pFuncs L m l a d = .ok r a' d' →
      d' = d ∧ ∃ j, a + j ≤ N ∧ r.length = l.length + j ∧ ∀ m', pFuncs L' (m' + j) l a d = pFuncs L' m' r N d := by
  intro m
  induction m with
  | zero => intro l a d r a' d' ha h; cases h
  | succ m ih =>
    intro l a d r a' d' ha h
    simp only [pFuncs, pm_bind, PM.bind, pHere] at h
    by_cases hk : (tk L a).kind = 0
    · rw [if_pos hk] at h
      cases h
      have : a = N := by
        by_cases hlt : a < N
        · exact absurd hk (hz a hlt)
        · omega
      subst this
      exact ⟨rfl, 0, by omega, by omega, fun m' => rfl⟩
    · rw [if_neg hk] at h
      simp only [pm_bind, PM.bind] at h
      cases h1 : pFunc L a d with
      | ok f a1 d1 =>
        rw [h1] at h
        obtain ⟨g1, g2, g3⟩ := g_func hL _ _ _ _ _ h1 (by omega)
        have g3 : d1 = d := g3
        subst g3
        obtain ⟨q1, j, q2, q3, q4⟩ := ih (l ++ [f]) a1 d1 r a' d' (by omega) h
        have hlt : a < N := by omega
        refine ⟨q1, j + 1, by omega, by simp at q3; omega, fun m' => ?_⟩
        rw [← q4 m', ← Nat.add_assoc]
        conv => lhs; unfold pFuncs
        simp only [pm_bind, PM.bind, pHere]
        rw [ht a hlt, if_neg hk]
        simp only [PM.bind]
        rw [ls_func.run _ L' _ _ _ _ _ h1 fun i hi => ht i (by omega)]
      | bad e p a1 d1 => rw [h1] at h; cases h

section
variable {L L' : List Token} {k far : Nat} (hF : Far L L' k far)
include hF
theorem s_funcs (B : List XF) : ∀ (m : Nat) (l' l : List XF), AllR (SimF far) l' l → SIn L k (fun v' v => ∃ w, v' = B ++ w ∧ AllR (SimF far) w v) (pFuncs L' m (B ++ l')) (pFuncs L m l)
  | 0, _, _, _ => SIn.fail
  | m + 1, l', l, hl => (s_here hF).bind fun _ t ht => by
    obtain ⟨rfl, _⟩ := ht
    exact SIn.ite (SIn.pure ⟨l', rfl, hl⟩) ((s_func hF).bind fun f' f hf => by
      rw [List.append_assoc]
      exact s_funcs B m _ _ (hl.snoc hf))
end
end Go.Proofs.YtkeoalhglkfbkaaDoor

/-
  THE PLAIN LAW SyntaxJoins. No program in sight. No conditions.
-/
namespace Go.Proofs.YtkeoalhglkfbkaaDoor
open Go Hk

theorem tk_mem {L : List Token} {i : Nat} (h : i < L.length) : tk L i ∈ L := by
  unfold tk; rw [List.getElem?_eq_getElem h]; exact List.getElem_mem h
theorem AllR.len {α : Type} {R : α → α → Prop} : ∀ {xs ys : List α}, AllR R xs ys → ys.length = xs.length
  | [], ys, h => by
    have h : ys = [] := h
    subst h; rfl
  | x :: r, ys, h => by
    obtain ⟨y, s, rfl, _, h2⟩ := h
    simp [h2.len]
theorem parse_ok {s : List UInt8} {F : List XF} {p : Nat} (h : parseS s = (F, 0, p)) :
    ∃ l, lexS s = (l ++ [⟨0, s.length, 0, []⟩], 0, 0) ∧ (∀ x ∈ l, x.kind ≠ 0) ∧ ∃ a d, pFuncs (l ++ [⟨0, s.length, 0, []⟩]) 131073 [] 0 0 = .ok F a d := by
  unfold parseS at h
  by_cases h0 : (lexS s).2.1 = 0
  · rw [if_pos h0] at h
    obtain ⟨l, h1, h2, _⟩ := lexS_ok h0
    refine ⟨l, h1, fun x hx => (h2 x hx).2.1.1, ?_⟩
    rw [h1] at h
    simp only [] at h
    cases h3 : pFuncs (l ++ [⟨0, s.length, 0, []⟩]) 131073 [] 0 0 with
    | ok v a d => rw [h3] at h; cases h; exact ⟨a, d, rfl⟩
    | bad e q a d =>
      rw [h3] at h
      have := ((l_funcs 131073 []).place _ _ _ _ _ _ _ h3).2
      exact absurd (congrArg (fun x => x.2.1) h) this
  · rw [if_neg h0] at h
    exact absurd (congrArg (fun x => x.2.1) h) h0

theorem far_self {L : List Token} (hL : TokOk L) (hp : ∀ x ∈ L, x.pos ≤ 100000) : Far L L 0 0 :=
  ⟨hL, fun i _ => by rw [Nat.zero_add]; rfl, fun i hi => hp _ (tk_mem hi), by omega⟩
end Go.Proofs.YtkeoalhglkfbkaaDoor

/-
  The law SyntaxJoins, by the evaluator. No conditions.
-/
namespace Go.Proofs.YtkeoalhglkfbkaaDoor
open Go Hk

theorem AllR.get {α : Type} {R : α → α → Prop} : ∀ {xs ys : List α}, AllR R xs ys → ∀ (i : Nat) (h : i < xs.length) (h' : i < ys.length), R xs[i] ys[i]
  | [], ys, h, i, hi, _ => by simp at hi
  | x :: r, ys, h, i, hi, hi' => by
    obtain ⟨y, s, rfl, h1, h2⟩ := h
    cases i with
    | zero => exact h1
    | succ i => exact h2.get i (by simpa using hi) (by simpa using hi')

def hJ (F G C : List XF) (p q : Nat) : Heap := [.cells [.slice (F.map XF.cells) .no], .front 0 0, .cells [.int .i64 0, .int .i64 (p : Int)], .cells [.slice (G.map XF.cells) .no], .front 0 0, .cells [.int .i64 0, .int .i64 (q : Int)],
  .cells [.slice (C.map XF.cells) .no], .front 0 0, .cells [.int .i64 0, .int .i64 0]]

end Go.Proofs.YtkeoalhglkfbkaaDoor

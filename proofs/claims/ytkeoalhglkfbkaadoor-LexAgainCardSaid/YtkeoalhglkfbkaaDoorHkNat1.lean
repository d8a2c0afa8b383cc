/-
  ONE OPERATION ANSWERS ONCE.
-/
import Derived.Test.YtkeoalhglkfbkaaDoorHkOp
set_option linter.unusedVariables false
set_option linter.unusedSimpArgs false
namespace Hk
open Go Go.RowKit

section
variable {cx : Cx} {o : Oper} {ρ : List AVal} {h : Heap} {kv kp : AVal → Heap → Option R} {r : R} {ids : List Nat} {ops : List Oper}

theorem evalOp_nat {rsv : Option Nat} : evalOp cx o rsv ρ h kv kp = (evalOp cx o rsv ρ h kv0 kp0).bind (fin0 kv kp) := by
  unfold evalOp
  generalize aval cx.A ρ = v
  have B : ∀ (e : Option AVal), (e.bind fun w => kv w h) = (e.bind fun w => kv0 w h).bind (fin0 kv kp) := by intro e; cases e <;> rfl
  have BV : ∀ (e : Option (AVal × Heap)), bindVH e kv = (bindVH e kv0).bind (fin0 kv kp) := by intro e; cases e <;> rfl
  have BR : ∀ (e : Option (Res × Heap)), bindRes e kv kp = (bindRes e kv0 kp0).bind (fin0 kv kp) := by
    intro e
    cases e with
    | none => rfl
    | some e => obtain ⟨r, h⟩ := e; cases r <;> rfl
  have BH : ∀ (e : Option Heap), (e.bind fun h' => kv (.tuple []) h') = (e.bind fun h' => kv0 (.tuple []) h').bind (fin0 kv kp) := by intro e; cases e <;> rfl
  have BB : ∀ (e : Option Bool) (f : Bool → AVal), (e.bind fun b => kv (f b) h) = (e.bind fun b => kv0 (f b) h).bind (fin0 kv kp) := by intro e f; cases e <;> rfl
  have C : ∀ (b : Bool) (x y : Option R), x = y.bind (fin0 kv kp) → (bif b then none else x) = (bif b then none else y).bind (fin0 kv kp) := by intro b x y hxy; cases b <;> simp [hxy]
  have D : ∀ (b : Bool) (x y : Option R), x = y.bind (fin0 kv kp) → (bif b then x else none) = (bif b then y else none).bind (fin0 kv kp) := by intro b x y hxy; cases b <;> simp [hxy]
  have bu : ∀ (b : Builtin) (ts : List TypeId) (args : List AVal), builtinOp cx b ts args h kv = (builtinOp cx b ts args h kv0).bind (fin0 kv kp) := by
    intro b ts args
    unfold builtinOp
    repeat' split
    all_goals first
      | rfl
      | exact B _
      | exact BV _
      | (refine C _ _ _ ?_; (repeat' split) <;> first | rfl | (refine C _ _ _ ?_; exact BV _))
  have PA : ∀ (x : AVal), apanic x h kp = (apanic x h kp0).bind (fin0 kv kp) := by intro x; cases x <;> rfl
  unfold evalOpV
  cases ho : o.op with
  | panic x => exact PA _
  | call c =>
    simp only []
    cases c.callee with
    | builtin b => exact bu _ _ _
    | value f =>
      simp only []
      cases acallee (v f) with
      | none => rfl
      | some g => exact BR _
    | _ => rfl
  | assign x =>
    simp only []
    cases hn : nilConst x with
    | true => rfl
    | false => rfl
  | makeFunc b f c => cases b <;> rfl
  | makeMap t r => cases r <;> rfl
  | slice t x lo hi mx =>
    cases mx with
    | some _ => rfl
    | none =>
      simp only []
      repeat' split
      all_goals first
        | rfl
        | exact B _
  | _ =>
    simp only []
    repeat' split
    all_goals first
      | rfl
      | exact B _
      | exact BV _
      | exact BH _
      | exact BB _ _
      | (refine C _ _ _ ?_; first | exact B _ | exact BV _ | (split <;> exact BV _))
      | exact D _ _ _ (B _)
      | exact D _ _ _ (BH _)


theorem evalLocked_nat : evalLocked cx o ids ρ h kv kp = (evalLocked cx o ids ρ h kv0 kp0).bind (fin0 kv kp) := by
  unfold evalLocked
  rw [evalOp_nat (kv := fun v h' => kv v (unhide ids h h')), evalOp_nat (kv := fun v h' => kv0 v (unhide ids h h')), Option.bind_assoc]
  refine congrArg (Option.bind _) ?_
  funext r
  obtain ⟨e, l, h⟩ := r
  cases e with
  | normal =>
    match l with
    | [] => rfl
    | [v] => rfl
    | _ :: _ :: _ => rfl
  | _ => rfl

/-- The same, with the continuation told twice. -/
def evalItemC (cx : Cx) (ops : List Oper) (o : Oper) (ids : List Nat) (ρ : List AVal) (h : Heap) (kv : AVal → Heap → Option R) (kp : AVal → Heap → Option R) : Option R :=
  match o.guard with
  | none => evalLocked cx o ids ρ h kv kp
  | some (j, want) => match (ops[j]?).bind (·.dst) with
    | some d => match ρ.getD d .junk with
      | .bool g => bif want then (bif g then evalLocked cx o ids ρ h kv kp else kv (.tuple []) h) else (bif g then kv (.tuple []) h else evalLocked cx o ids ρ h kv kp)
      | .tuple [] => kv (.tuple []) h
      | _ => none
    | none => none

theorem evalItem_eq : evalItem cx ops o ids ρ h kv kp = evalItemC cx ops o ids ρ h kv kp := by
  unfold evalItem evalItemC
  cases o.guard with
  | none => rfl
  | some jw =>
    obtain ⟨j, want⟩ := jw
    simp only []
    cases (ops[j]?).bind (·.dst) with
    | none => rfl
    | some d =>
      dsimp only
      generalize ρ.getD d .junk = x
      cases x with
      | bool g => cases want <;> cases g <;> first | rfl | exact evalLocked_nat.symm
      | tuple vs => cases vs <;> rfl
      | _ => rfl

end
end Hk

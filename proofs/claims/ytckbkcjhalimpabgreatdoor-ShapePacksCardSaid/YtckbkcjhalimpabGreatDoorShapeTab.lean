/-
  The kernel's run of the evaluator with a table of answers that are proved already. No conditions.
-/
import Derived.Test.YtckbkcjhalimpabGreatDoorSh2
set_option linter.unusedVariables false
set_option linter.unusedSimpArgs false
set_option linter.all false
namespace Go.Proofs.YtckbkcjhalimpabGreatDoor
open Go Hk
noncomputable def evT (T : CallO) (P : Program) (A : Ann) (lp : LpT) : Nat → CallO
  | 0, _, _, _ => none
  | n + 1, f, args, h => match T f args h with
    | some r => some r
    | none => evB P A lp (evT T P A lp n) f args h
theorem evT_run {T : CallO} {P : Program} {A : Ann} (hT : ∀ f args h r, T f args h = some r → evW P A f args h = some r) (m : Nat) : ∀ (n f : Nat) (args : List AVal) (h : Heap) (r : Res × Heap), evT T P A (loopN m) n f args h = some r → evW P A f args h = some r := by
  have hlp : ∀ F s r, loopN m F s = some r → lpW F s = some r := fun F s r h => lpW_iff.2 ⟨m, h⟩
  have key : ∀ n, KLim (evT T P A (loopN m) n) fun k => evF P A lpW k := by
    intro n
    induction n with
    | zero => intro f args h r hb; cases hb
    | succ n ih =>
      intro f args h r hb
      rw [evT] at hb
      cases ht : T f args h with
      | some r' =>
        rw [ht] at hb
        cases hb
        exact evW_iff.1 (hT _ _ _ _ ht)
      | none =>
        rw [ht] at hb
        obtain ⟨N, hN⟩ := evB_lim hlp ih f args h r hb
        refine ⟨N + 1, fun k hk => ?_⟩
        cases k with
        | zero => omega
        | succ k => exact hN k (by omega)
  exact fun n f args h r hb => evW_iff.2 (key n f args h r hb)
def tx : List UInt8 := [102, 110, 32, 109, 97, 105, 110, 40, 112, 117, 98, 32, 110, 58, 32, 117, 51, 50, 44, 32, 115, 101, 99, 32, 107, 58, 32, 117, 56, 91, 53, 93, 41, 32, 123, 32, 125]
def tk : List (List AVal) := [[.int .i64 3, .int .i64 0, .int .i64 0, .str [102, 110]],
 [.int .i64 1, .int .i64 3, .int .i64 0, .str [109, 97, 105, 110]],
 [.int .i64 4, .int .i64 7, .int .i64 0, .str [40]],
 [.int .i64 3, .int .i64 8, .int .i64 0, .str [112, 117, 98]],
 [.int .i64 1, .int .i64 12, .int .i64 0, .str [110]],
 [.int .i64 4, .int .i64 13, .int .i64 0, .str [58]],
 [.int .i64 3, .int .i64 15, .int .i64 0, .str [117, 51, 50]],
 [.int .i64 4, .int .i64 18, .int .i64 0, .str [44]],
 [.int .i64 3, .int .i64 20, .int .i64 0, .str [115, 101, 99]],
 [.int .i64 1, .int .i64 24, .int .i64 0, .str [107]],
 [.int .i64 4, .int .i64 25, .int .i64 0, .str [58]],
 [.int .i64 3, .int .i64 27, .int .i64 0, .str [117, 56]],
 [.int .i64 4, .int .i64 29, .int .i64 0, .str [91]],
 [.int .i64 2, .int .i64 30, .int .i64 5, .str []],
 [.int .i64 4, .int .i64 31, .int .i64 0, .str [93]],
 [.int .i64 4, .int .i64 32, .int .i64 0, .str [41]],
 [.int .i64 4, .int .i64 34, .int .i64 0, .str [123]],
 [.int .i64 4, .int .i64 36, .int .i64 0, .str [125]],
 [.int .i64 0, .int .i64 37, .int .i64 0, .str []]]
end Go.Proofs.YtckbkcjhalimpabGreatDoor

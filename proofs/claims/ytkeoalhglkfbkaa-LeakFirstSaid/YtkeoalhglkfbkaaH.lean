/-
  LeakFirst answers true for every input, and its arguments read afterwards as before: Rows.LeakFirstSaid. No conditions.
-/
import Derived.Test.YtkeoalhglkfbkaaP
import Derived.Test.YtkeoalhglkfbkaaRows
import Derived.WalkKit
import Derived.ProofKit
set_option linter.unusedVariables false
set_option linter.unusedSimpArgs false
namespace Go.Proofs.Ytkeoalhglkfbkaa
open Go Hk Go.ChangeShapes Go.RowKit

theorem rdEvent (n : Nat) : Rd Try.prog n 27 Event.cells (fun _ => True) := by
  refine Rd.mono (n := n + 1) (by omega) ?_
  refine (Rd.struct (n := n) (total := 4) Try.underlying27 (by kernel_rfl)
    (.cons (sz := 1) rfl (by kernel_rfl) (.int Try.underlying3) (.cons (sz := 1) rfl (by kernel_rfl) (.int Try.underlying3) (.cons (sz := 1) rfl (by kernel_rfl) (.int Try.underlying3) (.cons (sz := 1) rfl (by kernel_rfl) (.int Try.underlying3) .nil))))).to
    (fun z => ⟨z.1, z.2.1, z.2.2.1, z.2.2.2.1⟩) (fun z => rfl) (fun _ _ => trivial)
theorem rdEvents (n : Nat) : Rd Try.prog n 22 (fun l => [evs l]) (fun l => l.length ≤ maxLen ∧ ∀ e ∈ l, True) :=
  Rd.mono (n := n + 1) (by omega) (Rd.slice Try.underlying22 (by kernel_rfl) ev_len (rdEvent n))

theorem own : ownKnob Try.prog.godebug = none := by kernel_rfl
theorem laidOut : laidOutB Try.prog = true := by kernel_rfl
theorem follows : Try.prog.follows .mixedOrders = true := by kernel_rfl

theorem noAgg {t e : TypeId} {V : Value} {w : World} {b : Nat} (ht : Try.prog.underlying t = some (.slice e)) (h : Value.okWide Try.prog w .any b t V) : ∀ C, V ≠ .agg C := by
  intro C hC
  subst hC
  simp [Value.okWide, ht, Cell.okWide, Cell.ok] at h

theorem contract (H : Type) (enc : TypeId × Value → H) (W : World) (base : Nat) (args : Array Value) (ds gs : List (DataW H)) (before : List MemPlace)
    (hval : ∀ (j : Nat) t v, Try.f3.params[j]? = some t → args[j]? = some v → Value.okWide Try.prog W .any base t v)
    (hW : DataW.Whole enc Try.prog Try.f3.params.toList Rows.leakFirstSpec.vars false W args.toList ds gs before) :
    Calls Try.prog 3 args W fun e W' => ∃ v, e = .returned v ∧ Rows.leakFirstSpec.post enc Try.prog Try.f3 false true false false W args v W' := by
  have hW' := hW
  obtain ⟨p, q, hA0, hV, rfl, hfz, hnd⟩ := hW
  have hA : DataW.TrodAll enc Try.prog W 0 (fun _ => true) true Try.f3.params.toList args.toList ds p := hA0
  rw [Try.params3] at hA hval
  obtain ⟨v0, vs0, d0, ds0, p0, q0, hargs, rfl, rfl, h0, r0⟩ := trodAll_cons hA
  obtain ⟨v1, vs1, d1, ds1, p1, q1, rfl, rfl, rfl, h1, r1⟩ := trodAll_cons r0
  obtain ⟨rfl, rfl, rfl⟩ := trodAll_nil r1
  obtain rfl : args = #[v0, v1] := by cases args; simp_all
  obtain ⟨rfl, rfl⟩ := trodVars_none hV
  obtain ⟨a, ⟨wa, _⟩, ra⟩ := Rd.arg (encA := evs) rdEvents (noAgg Try.underlying22 (hval 0 22 v0 rfl rfl)) h0
  obtain ⟨b, ⟨wb, _⟩, rb⟩ := Rd.arg (encA := evs) rdEvents (noAgg Try.underlying22 (hval 1 22 v1 rfl rfl)) h1
  have hm : maxLen ≤ 9223372036854775807 := by decide
  refine (calls_true (A := ann) follows (law a b (by omega) (by omega)) (fun g cs hg => by cases hg) ⟨rfl, fun i v hv => ?_⟩).mono fun e W' ⟨he, hb⟩ => ?_
  · match i with
    | 0 => simp at hv; subst hv; exact ra
    | 1 => simp at hv; subst hv; exact rb
    | i + 2 => simp at hv
  · subst he
    exact ⟨_, rfl, post_true laidOut (by rw [Try.params3]; intro t ht; simp at ht; subst ht; exact ⟨by kernel_rfl, of_decide_eq_true (by kernel_rfl)⟩) (tb := 4) (by kernel_rfl) Try.underlying4 rfl hW' hb rfl rfl rfl⟩

set_option maxRecDepth 100000 in
theorem lifted (os : Os) (started : os.Started) (H : Type) (enc : TypeId × Value → H) :
    ReturnsInHanded {} Try.checked os 3 .any (Rows.leakFirstSpec.pre6 enc Try.prog Try.f3 Rows.leakFirstRow.domain false) (Rows.leakFirstSpec.post enc Try.prog Try.f3 false true false false) := by
  refine returnsInHanded_of_change (C := Try.checked) own started (by kernel_rfl) Try.func3
    (ChangeSpec.witness6 (enc := enc) (C := Try.checked) (s := Rows.leakFirstSpec) false ⟨#[], #[.slice none 0 0, .slice none 0 0], []⟩ 8 (by kernel_rfl) (by kernel_rfl) (by kernel_rfl) (by kernel_rfl)) ?_
  intro W base args ds gs before hval hW _ _
  exact contract H enc W base args ds gs before hval hW

theorem leakFirst_holds : Rows.LeakFirstSaid :=
  OpenClaim.holds_of_wide 3 Try.f3 rfl rfl rfl rfl rfl rfl rfl ⟨rfl, rfl, rfl, rfl, rfl⟩ rfl rfl rfl rfl rfl (by kernel_rfl) Try.func3 (by kernel_rfl)
    (of_decide_eq_true (by kernel_rfl)) (by unfold Func.isWrapper; first | (rw [if_pos (by decide +kernel)]; kernel_rfl) | (rw [if_neg (by decide +kernel)]; exact ⟨rfl, rfl⟩))
    (fun os started H enc _ => lifted os started H enc)
#print axioms leakFirst_holds
end Go.Proofs.Ytkeoalhglkfbkaa

/-
  ProseExpr answers true for all arguments, read afterwards as before: its row and its tied card: Rows.ProseExprCardSaid. No conditions.
-/
import Derived.Test.YtlddmnojanpdoaaGreatDoorWgb1
import Derived.Test.YtlddmnojanpdoaaGreatDoorWgu1
import Derived.Test.YtlddmnojanpdoaaGreatDoorProseExpr1
import Derived.Test.YtlddmnojanpdoaaGreatDoorCards
import Derived.Test.YtlddmnojanpdoaaGreatDoorTie
import Derived.WalkKit
import Derived.ProofKit
import Derived.OpenShut
import Derived.Deep.DeepHandedRow
import Derived.Deep.DeepWitnessRowRef
set_option linter.unusedVariables false
set_option linter.unusedSimpArgs false
set_option linter.all false
namespace Go.Proofs.YtlddmnojanpdoaaGreatDoor.proseExprP
open Go Hk Go.ChangeShapes Go.WideShapes Go.ChangeMaps Go.ChangeAt Go.RowKit

set_option maxRecDepth 100000 in
theorem contract (H : Type) (enc : TypeId × Value → H) (W : World) (base : Nat) (args : Array Value) (ds gs : List (DataW H)) (before : List MemPlace)
    (hval : ∀ (j : Nat) t v, Tryz.f4.params[j]? = some t → args[j]? = some v → Value.okWide Tryz.prog W .any base t v)
    (hW : DataW.Whole enc Tryz.prog Tryz.f4.params.toList Rows.proseExprSpec.vars false W args.toList ds gs before) (hz : (DataW.weightsEach Tryz.prog (Tryz.f4.params.toList ++ (OpenSpec.ofChange Rows.proseExprSpec).bare.plain.varTypes Tryz.prog) (ds ++ gs)).all (· ≤ reachBytes) = true) (hL : laidMetH Tryz.prog N8 W) :
    Calls Tryz.prog 4 args W fun e W' => ∃ v, e = .returned v ∧ Rows.proseExprSpec.post enc Tryz.prog Tryz.f4 false true false false W args v W' := by
  have hW' := hW
  obtain ⟨p, q, hA0, hV, rfl, hfz, hnd⟩ := hW
  have hA : DataW.TrodAll enc Tryz.prog W 0 (fun _ => true) true Tryz.f4.params.toList args.toList ds p := hA0
  rw [Tryz.params4] at hA hval hz
  obtain ⟨v0, vs0, d0, ds0, p0, q0, hargs, rfl, rfl, h0, r0⟩ := trodAll_cons hA
  obtain ⟨v1, vs1, d1, ds1, p1, q1, rfl, rfl, rfl, h1, r1⟩ := trodAll_cons r0
  obtain ⟨rfl, rfl, rfl⟩ := trodAll_nil r1
  obtain rfl : args = #[v0, v1] := by cases args; simp_all
  obtain ⟨rfl, rfl⟩ := trodVars_none hV
  obtain ⟨b0, rfl, rfl, rfl, w0⟩ := open_string Tryz.underlying9 (hval 0 9 v0 rfl rfl) h0
  obtain ⟨a0, ea0⟩ : ∃ a, a = b0.data.toList := ⟨_, rfl⟩
  have g0 : lE (gh W) [] (.str a0) (.string b0) := by rw [ea0]; exact .p _ _ (by simpa using qC.str (H := (gh W).H) b0.data.toList)
  rw [← ea0] at hz
  obtain ⟨a1, w1, g1⟩ := Rd.aoJ aeX (UE (hval 1 23 v1 rfl rfl)) h1
  simp only [List.cons_append, DataW.weightsEach, DataW.weights, List.all_append, List.all_cons, List.all_nil, Bool.and_eq_true, decide_eq_true_eq, reachBytes] at hz
  have z0 : a0.length ≤ 140737488355328 := by first | omega | (have := of_decide_eq_true hz.1; omega)
  refine (Ir (A := mK) follows ad6 (aw2 a0 a1 z0) (Vv hL) ⟨rfl, fun i v hv => ?_⟩).mono fun e W' ⟨he, hb⟩ => ?_
  · match i with
    | 0 => simp at hv; subst hv; exact g0
    | 1 => simp at hv; subst hv; exact g1
    | i + 2 => simp at hv
  · subst he
    exact ⟨_, rfl, La laidOut (by rw [Tryz.params4]; intro t ht; simp at ht; rcases ht with rfl | rfl <;> exact ⟨by kernel_rfl, of_decide_eq_true (by kernel_rfl)⟩) (tb := 4) (by kernel_rfl) Tryz.underlying4 rfl hW' hb rfl rfl rfl⟩

theorem reads (os : Os) {H : Type} (enc : TypeId × Value → H) : ∃ places, DataW.whole enc Tryz.prog ((World.doorLaid Tryz.prog 600 os).forCall (fun _ _ => 0) ⟨#[], #[Value.string ByteArray.empty, Value.agg #[.int .i64 0, .int .i64 0, .int .i64 0, .string ByteArray.empty]], []⟩).memory Tryz.f4.params.toList Rows.proseExprSpec.vars false #[Value.string ByteArray.empty, Value.agg #[.int .i64 0, .int .i64 0, .int .i64 0, .string ByteArray.empty]].toList 8 = some ([.lit (.string []), .agg [.lit (.int .i64 0), .lit (.int .i64 0), .lit (.int .i64 0), .lit (.string [])]], [], places) :=
  ⟨[], by kernel_rfl⟩
theorem wok (os : Os) : Input.okWideB Tryz.checked.prog ((World.doorLaid Tryz.prog 600 os).forCall (fun _ _ => 0) ⟨#[], #[Value.string ByteArray.empty, Value.agg #[.int .i64 0, .int .i64 0, .int .i64 0, .string ByteArray.empty]], []⟩) 4 ⟨#[], #[Value.string ByteArray.empty, Value.agg #[.int .i64 0, .int .i64 0, .int .i64 0, .string ByteArray.empty]], []⟩ = true := by kernel_rfl
theorem wsized (os : Os) {H : Type} (enc : TypeId × Value → H) : (OpenSpec.ofChange Rows.proseExprSpec).bare.sizedB enc Tryz.prog Tryz.f4 false ((World.doorLaid Tryz.prog 600 os).forCall (fun _ _ => 0) ⟨#[], #[Value.string ByteArray.empty, Value.agg #[.int .i64 0, .int .i64 0, .int .i64 0, .string ByteArray.empty]], []⟩).memory #[Value.string ByteArray.empty, Value.agg #[.int .i64 0, .int .i64 0, .int .i64 0, .string ByteArray.empty]] 8 = true := by kernel_rfl
set_option maxRecDepth 100000 in
theorem wpre (os : Os) {H : Type} (enc : TypeId × Value → H) : (OpenSpec.ofChange Rows.proseExprSpec).preRow enc Tryz.prog Tryz.f4 Rows.proseExprRow.domain false Rows.proseExprRow.laid ((World.doorLaid Tryz.prog 600 os).forCall (fun _ _ => 0) ⟨#[], #[Value.string ByteArray.empty, Value.agg #[.int .i64 0, .int .i64 0, .int .i64 0, .string ByteArray.empty]], []⟩).memory #[Value.string ByteArray.empty, Value.agg #[.int .i64 0, .int .i64 0, .int .i64 0, .string ByteArray.empty]] := by
  obtain ⟨places, hx⟩ := reads os enc
  exact OpenSpec.preRow_of_cond 8 hx (by kernel_rfl) (fun k hk => by cases hk) (wsized os enc) (R4 _ os)

set_option maxRecDepth 100000 in
theorem lifted (os : Os) (started : os.Started) (H : Type) (enc : TypeId × Value → H) (F : Stop.Interp) :
    ReturnsInHanded {} Tryz.checked os 4 .any ((OpenSpec.ofChange Rows.proseExprSpec).preRow enc Tryz.prog Tryz.f4 Rows.proseExprRow.domain false Rows.proseExprRow.laid) (((OpenSpec.ofChange Rows.proseExprSpec).at F).post enc Tryz.prog Tryz.f4 false true false false) := by
  refine returnsInHanded_of_row (C := Tryz.checked) (s := (OpenSpec.ofChange Rows.proseExprSpec)) own started noInit Tryz.func4
    (witness_row_atRef (enc := enc) (C := Tryz.checked) false (World.doorLaid Tryz.prog 600 os) #[Value.string ByteArray.empty, Value.agg #[.int .i64 0, .int .i64 0, .int .i64 0, .string ByteArray.empty]] rfl (XI _ os) (afK _ os) (wok os) (wpre os enc)) ?_
  intro W base args ds gs before hval hW _ _ hz hL _ _
  exact contract H enc W base args ds gs before hval hW hz hL

theorem said : Rows.ProseExprSaid :=
  OpenClaim.holds_of_cond 4 Tryz.f4 rfl rfl rfl rfl rfl rfl rfl ⟨rfl, rfl, rfl, rfl, rfl⟩ rfl rfl rfl rfl rfl named Tryz.func4 closed instance_ wrapper
    (fun os started H enc _ F => by rw [OpenClaim.pre_eq_preRow]; exact lifted os started H enc F)

theorem plain (f : FuncId) (fn : Func) (hf : Tryz.pinned.checked.prog.funcNamed Rows.proseExprRow.func = some f) (hfn : Tryz.pinned.checked.prog.funcs[f]? = some fn) :
    true = Tryz.pinned.checked.prog.looks [] ∧ ∀ (j : Nat) t, fn.params[j]? = some t → Tryz.pinned.checked.prog.wantsStandIn t = false := by
  obtain rfl : f = 4 := Option.some.inj (named.symm.trans hf) |>.symm
  obtain rfl : fn = Tryz.f4 := (Option.some.inj (Tryz.func4.symm.trans hfn)).symm
  refine ⟨Rx, fun j t ht => ?_⟩
  rw [Tryz.params4] at ht
  have hm : t ∈ [9, 23] := by simpa using Array.mem_of_getElem? ht
  simp at hm
  rcases hm with rfl | rfl
  · exact plainS
  · exact plainc

/-- THE CARD. -/
theorem proseExpr_card : Rows.ProseExprCardSaid :=
  Claim7.holds_tied_plain_at .later [] [.data, .data, .data, .listed, .data] true _ true said (fun _ h => by cases h) wfText (fun _ h => by cases h) proseExpr_row_tie rfl ⟨rfl, rfl⟩ mainIs rfl plain goesBy
#print axioms proseExpr_card
end Go.Proofs.YtlddmnojanpdoaaGreatDoor.proseExprP

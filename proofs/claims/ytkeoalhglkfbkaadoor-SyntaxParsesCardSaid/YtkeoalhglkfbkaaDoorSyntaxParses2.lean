/-
  SyntaxParses answers true for all arguments, read afterwards as before: its row and its tied card: Rows.SyntaxParsesCardSaid. No conditions.
-/
import Derived.Test.YtkeoalhglkfbkaaDoorRx2
import Derived.Test.YtkeoalhglkfbkaaDoorLx4
import Derived.Test.YtkeoalhglkfbkaaDoorLx1
import Derived.Test.YtkeoalhglkfbkaaDoorSyntaxParses1
import Derived.Test.YtkeoalhglkfbkaaDoorCards
import Derived.Test.YtkeoalhglkfbkaaDoorTie
import Derived.WalkKit
import Derived.ProofKit
import Derived.OpenShut
import Derived.Deep.DeepHandedRow
import Derived.Deep.DeepWitnessRowRef
set_option linter.unusedVariables false
set_option linter.unusedSimpArgs false
namespace Go.Proofs.YtkeoalhglkfbkaaDoor.syntaxParsesP
open Go Hk Go.ChangeShapes Go.WideShapes Go.ChangeMaps Go.ChangeAt Go.RowKit

set_option maxRecDepth 100000 in
theorem contract (H : Type) (enc : TypeId × Value → H) (W : World) (base : Nat) (args : Array Value) (ds gs : List (DataW H)) (before : List MemPlace)
    (hval : ∀ (j : Nat) t v, Tryd.f8.params[j]? = some t → args[j]? = some v → Value.okWide Tryd.prog W .any base t v)
    (hW : DataW.Whole enc Tryd.prog Tryd.f8.params.toList Rows.syntaxParsesSpec.vars false W args.toList ds gs before) (hL : laidMetH Tryd.prog laid2 W) :
    Calls Tryd.prog 8 args W fun e W' => ∃ v, e = .returned v ∧ Rows.syntaxParsesSpec.post enc Tryd.prog Tryd.f8 false true false false W args v W' := by
  have hW' := hW
  obtain ⟨p, q, hA0, hV, rfl, hfz, hnd⟩ := hW
  have hA : DataW.TrodAll enc Tryd.prog W 0 (fun _ => true) true Tryd.f8.params.toList args.toList ds p := hA0
  rw [Tryd.params8] at hA hval
  obtain ⟨v0, vs0, d0, ds0, p0, q0, hargs, rfl, rfl, h0, r0⟩ := trodAll_cons hA
  obtain ⟨rfl, rfl, rfl⟩ := trodAll_nil r0
  obtain rfl : args = #[v0] := by cases args; simp_all
  obtain ⟨rfl, rfl⟩ := trodVars_none hV
  obtain ⟨s0, rfl, rfl, rfl, w0⟩ := open_string Tryd.underlying9 (hval 0 9 v0 rfl rfl) h0
  refine (calls_true (A := ann) follows extOk (c8 s0.data.toList) (globOk hL) ⟨rfl, fun i v hv => ?_⟩).mono fun e W' ⟨he, hb⟩ => ?_
  · match i with
    | 0 => simp at hv; subst hv; exact .p _ _ (by simpa using RelP.str (H := (gh W).H) s0.data.toList)
    | i + 1 => simp at hv
  · subst he
    exact ⟨_, rfl, post_true laidOut (by rw [Tryd.params8]; intro t ht; simp at ht; subst ht; exact ⟨by kernel_rfl, of_decide_eq_true (by kernel_rfl)⟩) (tb := 4) (by kernel_rfl) Tryd.underlying4 rfl hW' hb rfl rfl rfl⟩

theorem reads (os : Os) {H : Type} (enc : TypeId × Value → H) : ∃ places, DataW.whole enc Tryd.prog ((World.doorLaid Tryd.prog 600 os).forCall (fun _ _ => 0) ⟨#[], #[.string ByteArray.empty], []⟩).memory Tryd.f8.params.toList Rows.syntaxParsesSpec.vars false #[Value.string ByteArray.empty].toList 8 = some ([.lit (.string [])], [], places) :=
  ⟨[], by kernel_rfl⟩
theorem wok (os : Os) : Input.okWideB Tryd.checked.prog ((World.doorLaid Tryd.prog 600 os).forCall (fun _ _ => 0) ⟨#[], #[.string ByteArray.empty], []⟩) 8 ⟨#[], #[.string ByteArray.empty], []⟩ = true := by kernel_rfl
theorem wsized (os : Os) {H : Type} (enc : TypeId × Value → H) : (OpenSpec.ofChange Rows.syntaxParsesSpec).bare.sizedB enc Tryd.prog Tryd.f8 false ((World.doorLaid Tryd.prog 600 os).forCall (fun _ _ => 0) ⟨#[], #[.string ByteArray.empty], []⟩).memory #[.string ByteArray.empty] 8 = true := by kernel_rfl
set_option maxRecDepth 100000 in
theorem wpre (os : Os) {H : Type} (enc : TypeId × Value → H) : (OpenSpec.ofChange Rows.syntaxParsesSpec).preRow enc Tryd.prog Tryd.f8 Rows.syntaxParsesRow.domain false Rows.syntaxParsesRow.laid ((World.doorLaid Tryd.prog 600 os).forCall (fun _ _ => 0) ⟨#[], #[.string ByteArray.empty], []⟩).memory #[.string ByteArray.empty] := by
  obtain ⟨places, hx⟩ := reads os enc
  exact OpenSpec.preRow_of_cond 8 hx (by kernel_rfl) (fun k hk => by cases hk) (wsized os enc) (wtables _ os)

set_option maxRecDepth 100000 in
theorem lifted (os : Os) (started : os.Started) (H : Type) (enc : TypeId × Value → H) (F : Stop.Interp) :
    ReturnsInHanded {} Tryd.checked os 8 .any ((OpenSpec.ofChange Rows.syntaxParsesSpec).preRow enc Tryd.prog Tryd.f8 Rows.syntaxParsesRow.domain false Rows.syntaxParsesRow.laid) (((OpenSpec.ofChange Rows.syntaxParsesSpec).at F).post enc Tryd.prog Tryd.f8 false true false false) := by
  refine returnsInHanded_of_row (C := Tryd.checked) (s := OpenSpec.ofChange Rows.syntaxParsesSpec) own started noInit Tryd.func8
    (witness_row_atRef (enc := enc) (C := Tryd.checked) false (World.doorLaid Tryd.prog 600 os) #[.string ByteArray.empty] rfl (wshape _ os) (wrest _ os) (wok os) (wpre os enc)) ?_
  intro W base args ds gs before hval hW _ _ _ hL _ _
  exact contract H enc W base args ds gs before hval hW hL

theorem said : Rows.SyntaxParsesSaid :=
  OpenClaim.holds_of_cond 8 Tryd.f8 rfl rfl rfl rfl rfl rfl rfl ⟨rfl, rfl, rfl, rfl, rfl⟩ rfl rfl rfl rfl rfl named Tryd.func8 closed instance_ wrapper
    (fun os started H enc _ F => by rw [OpenClaim.pre_eq_preRow]; exact lifted os started H enc F)

theorem plain (f : FuncId) (fn : Func) (hf : Tryd.pinned.checked.prog.funcNamed Rows.syntaxParsesRow.func = some f) (hfn : Tryd.pinned.checked.prog.funcs[f]? = some fn) :
    true = Tryd.pinned.checked.prog.looks [] ∧ ∀ (j : Nat) t, fn.params[j]? = some t → Tryd.pinned.checked.prog.wantsStandIn t = false := by
  obtain rfl : f = 8 := Option.some.inj (named.symm.trans hf) |>.symm
  obtain rfl : fn = Tryd.f8 := (Option.some.inj (Tryd.func8.symm.trans hfn)).symm
  refine ⟨looksUp, fun j t ht => ?_⟩
  rw [Tryd.params8] at ht
  obtain rfl : t = 9 := by simpa using Array.mem_of_getElem? ht
  exact plain9

/-- THE CARD. -/
theorem syntaxParses_card : Rows.SyntaxParsesCardSaid :=
  Claim7.holds_tied_plain_at .later [] [.listed, .data] true _ true said (fun _ h => by cases h) wfText (fun _ h => by cases h) syntaxParses_row_tie rfl ⟨rfl, rfl⟩ mainIs rfl plain goesBy
#print axioms syntaxParses_card
end Go.Proofs.YtkeoalhglkfbkaaDoor.syntaxParsesP

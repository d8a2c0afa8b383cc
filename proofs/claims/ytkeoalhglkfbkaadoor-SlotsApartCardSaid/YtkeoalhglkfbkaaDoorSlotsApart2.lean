/-
  SlotsApart answers true for all arguments, read afterwards as before: its row and its tied card: Rows.SlotsApartCardSaid. No conditions.
-/
import Derived.Test.YtkeoalhglkfbkaaDoorTy1
import Derived.Test.YtkeoalhglkfbkaaDoorIxu1
import Derived.Test.YtkeoalhglkfbkaaDoorSlotsApart1
import Derived.Test.YtkeoalhglkfbkaaDoorCards
import Derived.Test.YtkeoalhglkfbkaaDoorTie
import Derived.WalkKit
import Derived.ProofKit
import Derived.OpenShut
import Derived.Deep.DeepHandedRow
import Derived.Deep.DeepWitnessRowRef
set_option linter.unusedVariables false
set_option linter.unusedSimpArgs false
set_option linter.all false
namespace Go.Proofs.YtkeoalhglkfbkaaDoor.slotsApartP
open Go Hk Go.ChangeShapes Go.WideShapes Go.ChangeMaps Go.ChangeAt Go.RowKit

set_option maxRecDepth 100000 in
theorem contract (H : Type) (enc : TypeId × Value → H) (W : World) (base : Nat) (args : Array Value) (ds gs : List (DataW H)) (before : List MemPlace)
    (hval : ∀ (j : Nat) t v, Tryd.f15.params[j]? = some t → args[j]? = some v → Value.okWide Tryd.prog W .any base t v)
    (hW : DataW.Whole enc Tryd.prog Tryd.f15.params.toList Rows.slotsApartSpec.vars false W args.toList ds gs before) (hL : laidMetH Tryd.prog KQ W) :
    Calls Tryd.prog 15 args W fun e W' => ∃ v, e = .returned v ∧ Rows.slotsApartSpec.post enc Tryd.prog Tryd.f15 false true false false W args v W' := by
  have hW' := hW
  obtain ⟨p, q, hA0, hV, rfl, hfz, hnd⟩ := hW
  have hA : DataW.TrodAll enc Tryd.prog W 0 (fun _ => true) true Tryd.f15.params.toList args.toList ds p := hA0
  rw [Tryd.params15] at hA hval
  obtain ⟨v0, vs0, d0, ds0, p0, q0, hargs, rfl, rfl, h0, r0⟩ := trodAll_cons hA
  obtain ⟨rfl, rfl, rfl⟩ := trodAll_nil r0
  obtain rfl : args = #[v0] := by cases args; simp_all
  obtain ⟨rfl, rfl⟩ := trodVars_none hV
  obtain ⟨a0, w0, g0⟩ := Rd.ab1 ad6 (Vj (hval 0 44 v0 rfl rfl)) h0
  refine (FD (A := nC) follows VG (adJ a0) (Q5 hL) ⟨rfl, fun i v hv => ?_⟩).mono fun e W' ⟨he, hb⟩ => ?_
  · match i with
    | 0 => simp at hv; subst hv; exact g0
    | i + 1 => simp at hv
  · subst he
    exact ⟨_, rfl, H_ laidOut (by rw [Tryd.params15]; intro t ht; simp at ht; subst ht; exact ⟨by kernel_rfl, of_decide_eq_true (by kernel_rfl)⟩) (tb := 4) (by kernel_rfl) Tryd.underlying4 rfl hW' hb rfl rfl rfl⟩

theorem reads (os : Os) {H : Type} (enc : TypeId × Value → H) : ∃ places, DataW.whole enc Tryd.prog ((World.doorLaid Tryd.prog 600 os).forCall (fun _ _ => 0) ⟨#[], #[Value.agg #[.int .i64 0, .slice none 0 0, .slice none 0 0, .int .i64 0, .int .i64 0]], []⟩).memory Tryd.f15.params.toList Rows.slotsApartSpec.vars false #[Value.agg #[.int .i64 0, .slice none 0 0, .slice none 0 0, .int .i64 0, .int .i64 0]].toList 8 = some ([.agg [.lit (.int .i64 0), .nil, .nil, .lit (.int .i64 0), .lit (.int .i64 0)]], [], places) :=
  ⟨[], by kernel_rfl⟩
theorem wok (os : Os) : Input.okWideB Tryd.checked.prog ((World.doorLaid Tryd.prog 600 os).forCall (fun _ _ => 0) ⟨#[], #[Value.agg #[.int .i64 0, .slice none 0 0, .slice none 0 0, .int .i64 0, .int .i64 0]], []⟩) 15 ⟨#[], #[Value.agg #[.int .i64 0, .slice none 0 0, .slice none 0 0, .int .i64 0, .int .i64 0]], []⟩ = true := by kernel_rfl
theorem wsized (os : Os) {H : Type} (enc : TypeId × Value → H) : (OpenSpec.ofChange Rows.slotsApartSpec).bare.sizedB enc Tryd.prog Tryd.f15 false ((World.doorLaid Tryd.prog 600 os).forCall (fun _ _ => 0) ⟨#[], #[Value.agg #[.int .i64 0, .slice none 0 0, .slice none 0 0, .int .i64 0, .int .i64 0]], []⟩).memory #[Value.agg #[.int .i64 0, .slice none 0 0, .slice none 0 0, .int .i64 0, .int .i64 0]] 8 = true := by kernel_rfl
set_option maxRecDepth 100000 in
theorem wpre (os : Os) {H : Type} (enc : TypeId × Value → H) : (OpenSpec.ofChange Rows.slotsApartSpec).preRow enc Tryd.prog Tryd.f15 Rows.slotsApartRow.domain false Rows.slotsApartRow.laid ((World.doorLaid Tryd.prog 600 os).forCall (fun _ _ => 0) ⟨#[], #[Value.agg #[.int .i64 0, .slice none 0 0, .slice none 0 0, .int .i64 0, .int .i64 0]], []⟩).memory #[Value.agg #[.int .i64 0, .slice none 0 0, .slice none 0 0, .int .i64 0, .int .i64 0]] := by
  obtain ⟨places, hx⟩ := reads os enc
  exact OpenSpec.preRow_of_cond 8 hx (by kernel_rfl) (fun k hk => by cases hk) (wsized os enc) (Of _ os)

set_option maxRecDepth 100000 in
theorem lifted (os : Os) (started : os.Started) (H : Type) (enc : TypeId × Value → H) (F : Stop.Interp) :
    ReturnsInHanded {} Tryd.checked os 15 .any ((OpenSpec.ofChange Rows.slotsApartSpec).preRow enc Tryd.prog Tryd.f15 Rows.slotsApartRow.domain false Rows.slotsApartRow.laid) (((OpenSpec.ofChange Rows.slotsApartSpec).at F).post enc Tryd.prog Tryd.f15 false true false false) := by
  refine returnsInHanded_of_row (C := Tryd.checked) (s := OpenSpec.ofChange Rows.slotsApartSpec) own started noInit Tryd.func15
    (witness_row_atRef (enc := enc) (C := Tryd.checked) false (World.doorLaid Tryd.prog 600 os) #[Value.agg #[.int .i64 0, .slice none 0 0, .slice none 0 0, .int .i64 0, .int .i64 0]] rfl (SM _ os) (Ww _ os) (wok os) (wpre os enc)) ?_
  intro W base args ds gs before hval hW _ _ _ hL _ _
  exact contract H enc W base args ds gs before hval hW hL

theorem said : Rows.SlotsApartSaid :=
  OpenClaim.holds_of_cond 15 Tryd.f15 rfl rfl rfl rfl rfl rfl rfl ⟨rfl, rfl, rfl, rfl, rfl⟩ rfl rfl rfl rfl rfl named Tryd.func15 closed instance_ wrapper
    (fun os started H enc _ F => by rw [OpenClaim.pre_eq_preRow]; exact lifted os started H enc F)

theorem plain (f : FuncId) (fn : Func) (hf : Tryd.pinned.checked.prog.funcNamed Rows.slotsApartRow.func = some f) (hfn : Tryd.pinned.checked.prog.funcs[f]? = some fn) :
    true = Tryd.pinned.checked.prog.looks [] ∧ ∀ (j : Nat) t, fn.params[j]? = some t → Tryd.pinned.checked.prog.wantsStandIn t = false := by
  obtain rfl : f = 15 := Option.some.inj (named.symm.trans hf) |>.symm
  obtain rfl : fn = Tryd.f15 := (Option.some.inj (Tryd.func15.symm.trans hfn)).symm
  refine ⟨N0, fun j t ht => ?_⟩
  rw [Tryd.params15] at ht
  have hm : t ∈ [44] := by simpa using Array.mem_of_getElem? ht
  simp at hm
  subst hm; exact plainp

/-- THE CARD. -/
theorem slotsApart_card : Rows.SlotsApartCardSaid :=
  Claim7.holds_tied_plain_at .later [] [.data] true _ true said (fun _ h => by cases h) wfText (fun _ h => by cases h) slotsApart_row_tie rfl ⟨rfl, rfl⟩ mainIs rfl plain goesBy
#print axioms slotsApart_card
end Go.Proofs.YtkeoalhglkfbkaaDoor.slotsApartP

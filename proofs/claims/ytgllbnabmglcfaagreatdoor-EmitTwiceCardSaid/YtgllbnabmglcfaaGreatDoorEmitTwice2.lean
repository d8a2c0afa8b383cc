/-
  EmitTwice answers true for all arguments, read afterwards as before: its row and its tied card: Rows.EmitTwiceCardSaid. No conditions.
-/
import Derived.Test.YtgllbnabmglcfaaGreatDoorYm6
import Derived.Test.YtgllbnabmglcfaaGreatDoorEmitTwice1
import Derived.Test.YtgllbnabmglcfaaGreatDoorCards
import Derived.Test.YtgllbnabmglcfaaGreatDoorTie
import Derived.WalkKit
import Derived.ProofKit
import Derived.OpenShut
import Derived.Deep.DeepHandedRow
import Derived.Deep.DeepWitnessRowRef
set_option linter.unusedVariables false
set_option linter.unusedSimpArgs false
set_option linter.all false
namespace Go.Proofs.YtgllbnabmglcfaaGreatDoor.emitTwiceP
open Go Hk Go.ChangeShapes Go.WideShapes Go.ChangeMaps Go.ChangeAt Go.RowKit

set_option maxRecDepth 100000 in
theorem contract (H : Type) (enc : TypeId × Value → H) (W : World) (base : Nat) (args : Array Value) (ds gs : List (DataW H)) (before : List MemPlace)
    (hval : ∀ (j : Nat) t v, Tryz.f4.params[j]? = some t → args[j]? = some v → Value.okWide Tryz.prog W .any base t v)
    (hW : DataW.Whole enc Tryz.prog Tryz.f4.params.toList Rows.emitTwiceSpec.vars false W args.toList ds gs before) (hL : laidMetH Tryz.prog RY W) :
    Calls Tryz.prog 4 args W fun e W' => ∃ v, e = .returned v ∧ Rows.emitTwiceSpec.post enc Tryz.prog Tryz.f4 false true false false W args v W' := by
  have hW' := hW
  obtain ⟨p, q, hA0, hV, rfl, hfz, hnd⟩ := hW
  have hA : DataW.TrodAll enc Tryz.prog W 0 (fun _ => true) true Tryz.f4.params.toList args.toList ds p := hA0
  rw [Tryz.params4] at hA hval
  obtain ⟨v0, vs0, d0, ds0, p0, q0, hargs, rfl, rfl, h0, r0⟩ := trodAll_cons hA
  obtain ⟨rfl, rfl, rfl⟩ := trodAll_nil r0
  obtain rfl : args = #[v0] := by cases args; simp_all
  obtain ⟨rfl, rfl⟩ := trodVars_none hV
  obtain ⟨a0, w0, g0⟩ := Rd.as8 av1 (anP (hval 0 25 v0 rfl rfl)) h0
  refine (Pf (A := mY) follows aoR (au4 a0) (af8 hL) ⟨rfl, fun i v hv => ?_⟩).mono fun e W' ⟨he, hb⟩ => ?_
  · match i with
    | 0 => simp at hv; subst hv; exact g0
    | i + 1 => simp at hv
  · subst he
    exact ⟨_, rfl, TX laidOut (by rw [Tryz.params4]; intro t ht; simp at ht; subst ht; exact ⟨by kernel_rfl, of_decide_eq_true (by kernel_rfl)⟩) (tb := 4) (by kernel_rfl) Tryz.underlying4 rfl hW' hb rfl rfl rfl⟩

theorem reads (os : Os) {H : Type} (enc : TypeId × Value → H) : ∃ places, DataW.whole enc Tryz.prog ((World.doorLaid Tryz.prog 600 os).forCall (fun _ _ => 0) ⟨#[], #[Value.agg #[.int .i64 0, .slice none 0 0, .slice none 0 0, .int .i64 0, .int .i64 0]], []⟩).memory Tryz.f4.params.toList Rows.emitTwiceSpec.vars false #[Value.agg #[.int .i64 0, .slice none 0 0, .slice none 0 0, .int .i64 0, .int .i64 0]].toList 8 = some ([.agg [.lit (.int .i64 0), .nil, .nil, .lit (.int .i64 0), .lit (.int .i64 0)]], [], places) :=
  ⟨[], by kernel_rfl⟩
theorem wok (os : Os) : Input.okWideB Tryz.checked.prog ((World.doorLaid Tryz.prog 600 os).forCall (fun _ _ => 0) ⟨#[], #[Value.agg #[.int .i64 0, .slice none 0 0, .slice none 0 0, .int .i64 0, .int .i64 0]], []⟩) 4 ⟨#[], #[Value.agg #[.int .i64 0, .slice none 0 0, .slice none 0 0, .int .i64 0, .int .i64 0]], []⟩ = true := by kernel_rfl
theorem wsized (os : Os) {H : Type} (enc : TypeId × Value → H) : (OpenSpec.ofChange Rows.emitTwiceSpec).bare.sizedB enc Tryz.prog Tryz.f4 false ((World.doorLaid Tryz.prog 600 os).forCall (fun _ _ => 0) ⟨#[], #[Value.agg #[.int .i64 0, .slice none 0 0, .slice none 0 0, .int .i64 0, .int .i64 0]], []⟩).memory #[Value.agg #[.int .i64 0, .slice none 0 0, .slice none 0 0, .int .i64 0, .int .i64 0]] 8 = true := by kernel_rfl
set_option maxRecDepth 100000 in
theorem wpre (os : Os) {H : Type} (enc : TypeId × Value → H) : (OpenSpec.ofChange Rows.emitTwiceSpec).preRow enc Tryz.prog Tryz.f4 Rows.emitTwiceRow.domain false Rows.emitTwiceRow.laid ((World.doorLaid Tryz.prog 600 os).forCall (fun _ _ => 0) ⟨#[], #[Value.agg #[.int .i64 0, .slice none 0 0, .slice none 0 0, .int .i64 0, .int .i64 0]], []⟩).memory #[Value.agg #[.int .i64 0, .slice none 0 0, .slice none 0 0, .int .i64 0, .int .i64 0]] := by
  obtain ⟨places, hx⟩ := reads os enc
  exact OpenSpec.preRow_of_cond 8 hx (by kernel_rfl) (fun k hk => by cases hk) (wsized os enc) (ab5 _ os)

set_option maxRecDepth 100000 in
theorem lifted (os : Os) (started : os.Started) (H : Type) (enc : TypeId × Value → H) (F : Stop.Interp) :
    ReturnsInHanded {} Tryz.checked os 4 .any ((OpenSpec.ofChange Rows.emitTwiceSpec).preRow enc Tryz.prog Tryz.f4 Rows.emitTwiceRow.domain false Rows.emitTwiceRow.laid) (((OpenSpec.ofChange Rows.emitTwiceSpec).at F).post enc Tryz.prog Tryz.f4 false true false false) := by
  refine returnsInHanded_of_row (C := Tryz.checked) (s := (OpenSpec.ofChange Rows.emitTwiceSpec)) own started noInit Tryz.func4
    (witness_row_atRef (enc := enc) (C := Tryz.checked) false (World.doorLaid Tryz.prog 600 os) #[Value.agg #[.int .i64 0, .slice none 0 0, .slice none 0 0, .int .i64 0, .int .i64 0]] rfl (alC _ os) (aq6 _ os) (wok os) (wpre os enc)) ?_
  intro W base args ds gs before hval hW _ _ hz hL _ _
  exact contract H enc W base args ds gs before hval hW hL

theorem said : Rows.EmitTwiceSaid :=
  OpenClaim.holds_of_cond 4 Tryz.f4 rfl rfl rfl rfl rfl rfl rfl ⟨rfl, rfl, rfl, rfl, rfl⟩ rfl rfl rfl rfl rfl named Tryz.func4 closed instance_ wrapper
    (fun os started H enc _ F => by rw [OpenClaim.pre_eq_preRow]; exact lifted os started H enc F)

theorem plain (f : FuncId) (fn : Func) (hf : Tryz.pinned.checked.prog.funcNamed Rows.emitTwiceRow.func = some f) (hfn : Tryz.pinned.checked.prog.funcs[f]? = some fn) :
    false = Tryz.pinned.checked.prog.looks [] ∧ ∀ (j : Nat) t, fn.params[j]? = some t → Tryz.pinned.checked.prog.wantsStandIn t = false := by
  obtain rfl : f = 4 := Option.some.inj (named.symm.trans hf) |>.symm
  obtain rfl : fn = Tryz.f4 := (Option.some.inj (Tryz.func4.symm.trans hfn)).symm
  refine ⟨ZL, fun j t ht => ?_⟩
  rw [Tryz.params4] at ht
  have hm : t ∈ [25] := by simpa using Array.mem_of_getElem? ht
  simp at hm
  subst hm; exact plainp

/-- THE CARD. -/
theorem emitTwice_card : Rows.EmitTwiceCardSaid :=
  Claim7.holds_tied_plain_at .later [] [.data] true _ false said (fun _ h => by cases h) wfText (fun _ h => by cases h) emitTwice_row_tie rfl ⟨rfl, rfl⟩ mainIs rfl plain goesBy
#print axioms emitTwice_card
end Go.Proofs.YtgllbnabmglcfaaGreatDoor.emitTwiceP

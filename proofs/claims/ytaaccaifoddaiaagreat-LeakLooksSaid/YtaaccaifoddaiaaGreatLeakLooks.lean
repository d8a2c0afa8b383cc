/-
  LeakLooks answers true for every input, and its arguments read afterwards as before: Rows.LeakLooksSaid. No conditions.
-/
import Derived.Test.YtaaccaifoddaiaaGreatLk5
import Derived.Test.YtaaccaifoddaiaaGreatRows
import Derived.WalkKit
import Derived.ProofKit
set_option linter.unusedVariables false
set_option linter.unusedSimpArgs false
set_option linter.all false
namespace Go.Proofs.YtaaccaifoddaiaaGreat
open Go Hk Go.ChangeShapes Go.RowKit

theorem own : ownKnob Tryz.prog.godebug = none := by kernel_rfl
theorem laidOut : laidOutB Tryz.prog = true := by kernel_rfl
theorem extOk : tO Tryz.prog mJ := by
  refine ⟨fun f hf => (by cases hf), fun f k hf => ?_⟩
  unfold mJ at hf
  simp only [] at hf
  split at hf
  · rename_i h; subst h; cases hf; exact afA
  · cases hf
theorem globOk {G : Gh} {h : kO} {w : World} : o_ mJ G h w := ⟨fun g cs hg => (by cases hg), fun g n hg => (by cases hg)⟩
theorem law (f a b : List UInt8) (n : Int) (hf : f.length ≤ 9223372036854775807) : Ag Tryz.prog mJ 3 [.str f, .str a, .str b, .int .i64 n] [] = some (.ret (.bool true), []) := by
  have h := c3 f a b hf n []
  unfold KK lG at h
  rw [show mJ.pure 3 = true from rfl] at h
  simp only [cond_true] at h
  rw [show ([.str f, .str a, .str b, .int .i64 n] : List kN).all (kN.rI 0) = true from rfl] at h
  simp only [cond_true] at h
  obtain ⟨⟨r1, h1⟩, hc, hb⟩ := Option.bind_eq_some_iff.1 h
  rw [hc]
  cases h1 with
  | nil => cases hb; rfl
  | cons x l => simp only [tR, show mJ.out 3 = false from rfl, Bool.false_and, cond_false] at hb; cases hb
theorem rdInt (n : Nat) : Rd Tryz.prog n 3 (fun z : Int => [.int .i64 z]) (fun z => (Lit.int .i64 z).wf = true) := .int Tryz.underlying3
theorem rdStr (n : Nat) : Rd Tryz.prog n 9 (fun z : List UInt8 => [.str z]) (fun z => z.length ≤ maxLen) := .str Tryz.underlying9
theorem noAggS {W : World} {b : Nat} {V : Value} (h : Value.okWide Tryz.prog W .any b 9 V) : ∀ C, V ≠ .agg C := by
  intro C hC
  subst hC
  simp [Value.okWide, Tryz.underlying9, Cell.okWide, Cell.ok] at h
theorem noAggI {W : World} {b : Nat} {V : Value} (h : Value.okWide Tryz.prog W .any b 3 V) : ∀ C, V ≠ .agg C := by
  intro C hC
  subst hC
  simp [Value.okWide, Tryz.underlying3, Cell.okWide, Cell.ok] at h
set_option maxRecDepth 100000 in
theorem contract (H : Type) (enc : TypeId × Value → H) (W : World) (base : Nat) (args : Array Value) (ds gs : List (DataW H)) (before : List MemPlace)
    (hval : ∀ (j : Nat) t v, Tryz.f3.params[j]? = some t → args[j]? = some v → Value.okWide Tryz.prog W .any base t v)
    (hW : DataW.Whole enc Tryz.prog Tryz.f3.params.toList Rows.leakLooksSpec.vars false W args.toList ds gs before) :
    Calls Tryz.prog 3 args W fun e W' => ∃ v, e = .returned v ∧ Rows.leakLooksSpec.post enc Tryz.prog Tryz.f3 false true false false W args v W' := by
  have hW' := hW
  obtain ⟨p, q, hA0, hV, rfl, hfz, hnd⟩ := hW
  have hA : DataW.TrodAll enc Tryz.prog W 0 (fun _ => true) true Tryz.f3.params.toList args.toList ds p := hA0
  rw [Tryz.params3] at hA hval
  obtain ⟨v0, vs0, d0, ds0, p0, q0, hargs, rfl, rfl, h0, r0⟩ := trodAll_cons hA
  obtain ⟨v1, vs1, d1, ds1, p1, q1, rfl, rfl, rfl, h1, r1⟩ := trodAll_cons r0
  obtain ⟨v2, vs2, d2, ds2, p2, q2, rfl, rfl, rfl, h2, r2⟩ := trodAll_cons r1
  obtain ⟨v3, vs3, d3, ds3, p3, q3, rfl, rfl, rfl, h3, r3⟩ := trodAll_cons r2
  obtain ⟨rfl, rfl, rfl⟩ := trodAll_nil r3
  obtain rfl : args = #[v0, v1, v2, v3] := by cases args; simp_all
  obtain ⟨rfl, rfl⟩ := trodVars_none hV
  obtain ⟨a0, w0, g0⟩ := Rd.arg (encA := fun z : List UInt8 => kN.str z) rdStr (noAggS (hval 0 9 v0 rfl rfl)) h0
  obtain ⟨a1, w1, g1⟩ := Rd.arg (encA := fun z : List UInt8 => kN.str z) rdStr (noAggS (hval 1 9 v1 rfl rfl)) h1
  obtain ⟨a2, w2, g2⟩ := Rd.arg (encA := fun z : List UInt8 => kN.str z) rdStr (noAggS (hval 2 9 v2 rfl rfl)) h2
  obtain ⟨a3, w3, g3⟩ := Rd.arg (encA := fun z : Int => kN.int .i64 z) rdInt (noAggI (hval 3 3 v3 rfl rfl)) h3
  have hm : maxLen ≤ 9223372036854775807 := by decide
  refine (P9 (A := mJ) OP extOk (law a0 a1 a2 a3 (by omega)) globOk ⟨rfl, fun i v hv => ?_⟩).mono fun e W' ⟨he, hb⟩ => ?_
  · match i with
    | 0 => simp at hv; subst hv; exact g0
    | 1 => simp at hv; subst hv; exact g1
    | 2 => simp at hv; subst hv; exact g2
    | 3 => simp at hv; subst hv; exact g3
    | i + 4 => simp at hv
  · subst he
    exact ⟨_, rfl, UQ laidOut (by rw [Tryz.params3]; intro t ht; simp at ht; rcases ht with rfl | rfl <;> exact ⟨by kernel_rfl, of_decide_eq_true (by kernel_rfl)⟩) (tb := 4) (by kernel_rfl) Tryz.underlying4 rfl hW' hb rfl rfl rfl⟩
set_option maxRecDepth 100000 in
theorem lifted (os : Os) (started : os.Started) (H : Type) (enc : TypeId × Value → H) :
    ReturnsInHanded {} Tryz.checked os 3 .any (Rows.leakLooksSpec.pre6 enc Tryz.prog Tryz.f3 Rows.leakLooksRow.domain false) (Rows.leakLooksSpec.post enc Tryz.prog Tryz.f3 false true false false) := by
  refine returnsInHanded_of_change (C := Tryz.checked) own started (by kernel_rfl) Tryz.func3
    (ChangeSpec.witness6 (enc := enc) (C := Tryz.checked) (s := Rows.leakLooksSpec) false ⟨#[], #[.string ByteArray.empty, .string ByteArray.empty, .string ByteArray.empty, .int .i64 0], []⟩ 8 (by kernel_rfl) (by kernel_rfl) (by kernel_rfl) (by kernel_rfl)) ?_
  intro W base args ds gs before hval hW _ _
  exact contract H enc W base args ds gs before hval hW
theorem leakLooks_holds : Rows.LeakLooksSaid :=
  OpenClaim.holds_of_wide 3 Tryz.f3 rfl rfl rfl rfl rfl rfl rfl ⟨rfl, rfl, rfl, rfl, rfl⟩ rfl rfl rfl rfl rfl (by kernel_rfl) Tryz.func3 (by kernel_rfl)
    (of_decide_eq_true (by kernel_rfl)) (by unfold Func.isWrapper; first | (rw [if_pos (by decide +kernel)]; kernel_rfl) | (rw [if_neg (by decide +kernel)]; exact ⟨rfl, rfl⟩))
    (fun os started H enc _ => lifted os started H enc)
#print axioms leakLooks_holds
end Go.Proofs.YtaaccaifoddaiaaGreat

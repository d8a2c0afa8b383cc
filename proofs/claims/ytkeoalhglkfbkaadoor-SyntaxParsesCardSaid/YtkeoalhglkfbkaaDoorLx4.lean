/-
  The texts LX.Z, one behind another. No conditions.
-/
import Derived.Test.YtkeoalhglkfbkaaDoorLx2
import Derived.Test.YtkeoalhglkfbkaaDoorRows
import Derived.Lib.LaidTab
import Derived.LaidMore
import Derived.MakeChecks
import Derived.LaidHandle
import Derived.WalkKit
set_option linter.unusedVariables false
set_option linter.unusedSimpArgs false
/-
  What the laws on tokens share: the table that their rows list, and the worlds in which their witnesses stand. No conditions.
-/
namespace Go.Proofs.YtkeoalhglkfbkaaDoor
open Go Hk

theorem own : ownKnob Tryd.prog.godebug = none := by kernel_rfl
theorem laidOut : laidOutB Tryd.prog = true := by kernel_rfl
theorem follows : Tryd.prog.follows .mixedOrders = true := by kernel_rfl
theorem gAsciiN : Tryd.prog.globalNamed "strings.asciiSpace" = some 0 := by kernel_rfl
theorem tAscii : (Tryd.prog.globals[0]?).map (·.type) = some 227 := by kernel_rfl

theorem ext_eq {f : Nat} (h : ann.ext f = some .indexByte) : f = 218 := by
  unfold ann at h
  simp only [] at h
  split at h
  · assumption
  · cases h
theorem extOk : ExtOk Tryd.prog ann := by
  intro f hf
  obtain rfl := ext_eq hf
  exact ⟨Tryd.f218, Tryd.func218, by kernel_rfl, by kernel_rfl, by kernel_rfl, by kernel_rfl⟩

def laid2 : List (String × DataW Unit) := [("unicode.White_Space", Rows.laid_unicode_White_Space), ("strings.asciiSpace", Rows.laid_strings_asciiSpace)]

theorem ascii_laid {W : World} (h : laidMetH Tryd.prog laid2 W) : Lib.TabIs Tryd.prog W "strings.asciiSpace" .u8 asciiN := by
  rw [MakeChecks.laidMetH_plain _ _ _ (by kernel_rfl)] at h
  obtain ⟨ps, ⟨g0, t0, cs0, f0, p0, q0, hg0, ht0, hv0, hd0, ⟨g1, t1, cs1, f1, p1, q1, hg1, ht1, hv1, hd1, _, _⟩, _⟩, _, _⟩ := h
  obtain rfl := Option.some.inj (gAsciiN.symm.trans hg1)
  obtain rfl := Option.some.inj (tAscii.symm.trans ht1)
  unfold Lib.TabIs
  have e : (Rows.laid_strings_asciiSpace : DataW Unit) = Lib.tabData .u8 asciiN := by kernel_rfl
  rw [e] at hd1
  rw [hv1, ← Lib.cells_of_tab (k := .u8) Tryd.underlying227 Tryd.underlying5 (by kernel_rfl) (by kernel_rfl) hd1]

theorem globOk {W : World} (h : laidMetH Tryd.prog laid2 W) : GlobOk ann (gh W).H := by
  intro g cs hg
  have hg' : g = 0 ∧ cs = gAscii := by
    unfold ann at hg
    simp only [] at hg
    split at hg
    · rename_i h0; exact ⟨h0, (Option.some.inj hg).symm⟩
    · cases hg
  obtain ⟨rfl, rfl⟩ := hg'
  have hT := ascii_laid h
  refine .pptr gAscii 0 0 (fun j => .int .u8 (asciiN.getD j 0)) ?_ ?_ ?_
  · intro j v hv
    have hj : j < asciiN.length := by
      have := (List.getElem?_eq_some_iff.1 hv).1
      simpa [gAscii] using this
    simpa [gh] using hT.cell gAsciiN j hj
  · intro j v hv
    simp only [gAscii, List.getElem?_map, Option.map_eq_some_iff] at hv
    obtain ⟨z, _, rfl⟩ := hv
    rfl
  · intro j v hv
    simp only [gAscii, List.getElem?_map, Option.map_eq_some_iff] at hv
    obtain ⟨z, hz, rfl⟩ := hv
    have : asciiN.getD j 0 = z := by simp [List.getD, hz]
    rw [this]
    exact .int _ _

theorem wtables (args : Array Value) (os : Os) : laidMetH Tryd.prog laid2 ((World.doorLaid Tryd.prog 600 os).forCall (fun _ _ => 0) ⟨#[], args, []⟩).memory :=
  laidMetH_of_parts3 (fuel := 8) (laidMet_of_run' 8 (by kernel_rfl) (by kernel_rfl)) (by kernel_rfl) (by kernel_rfl)
theorem wshape (args : Array Value) (os : Os) : ((World.doorLaid Tryd.prog 600 os).forCall (fun _ _ => 0) ⟨#[], args, []⟩).variablesRefB Tryd.prog = true := by kernel_rfl
theorem wrest (args : Array Value) (os : Os) : ((((World.doorLaid Tryd.prog 600 os).forCall (fun _ _ => 0) ⟨#[], args, []⟩).heap.toList.drop Tryd.prog.globals.size).take ((begin Tryd.prog (fun _ _ => 0) default).world.heap.size - Tryd.prog.globals.size)) =
      (begin Tryd.prog (fun _ _ => 0) default).world.heap.toList.drop Tryd.prog.globals.size := by kernel_rfl
end Go.Proofs.YtkeoalhglkfbkaaDoor

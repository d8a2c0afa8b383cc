/-
  The tokens of a text, together. No conditions.
-/
import Derived.Test.YtckbkcjhalimpabGreatDoorShapeTok
set_option linter.unusedVariables false
set_option linter.unusedSimpArgs false
set_option linter.all false
namespace Go.Proofs.YtckbkcjhalimpabGreatDoor
open Go Hk
def tab30 : List (Nat × Int × AVal) := [
  (41, 0, .int .i64 0),
  (42, 0, .tuple [.agg [.int .i64 3, .int .i64 0, .int .i64 0, .str [102, 110]], .int .i64 2]),
  (41, 2, .int .i64 3),
  (42, 3, .tuple [.agg [.int .i64 1, .int .i64 3, .int .i64 0, .str [109, 97, 105, 110]], .int .i64 4]),
  (41, 7, .int .i64 7),
  (42, 7, .tuple [.agg [.int .i64 4, .int .i64 7, .int .i64 0, .str [40]], .int .i64 1]),
  (41, 8, .int .i64 8),
  (42, 8, .tuple [.agg [.int .i64 3, .int .i64 8, .int .i64 0, .str [112, 117, 98]], .int .i64 3]),
  (41, 11, .int .i64 12),
  (42, 12, .tuple [.agg [.int .i64 1, .int .i64 12, .int .i64 0, .str [110]], .int .i64 1]),
  (41, 13, .int .i64 13),
  (42, 13, .tuple [.agg [.int .i64 4, .int .i64 13, .int .i64 0, .str [58]], .int .i64 1]),
  (41, 14, .int .i64 15),
  (42, 15, .tuple [.agg [.int .i64 3, .int .i64 15, .int .i64 0, .str [117, 51, 50]], .int .i64 3]),
  (41, 18, .int .i64 18),
  (42, 18, .tuple [.agg [.int .i64 4, .int .i64 18, .int .i64 0, .str [44]], .int .i64 1]),
  (41, 19, .int .i64 20),
  (42, 20, .tuple [.agg [.int .i64 3, .int .i64 20, .int .i64 0, .str [115, 101, 99]], .int .i64 3]),
  (41, 23, .int .i64 24),
  (42, 24, .tuple [.agg [.int .i64 1, .int .i64 24, .int .i64 0, .str [107]], .int .i64 1]),
  (41, 25, .int .i64 25),
  (42, 25, .tuple [.agg [.int .i64 4, .int .i64 25, .int .i64 0, .str [58]], .int .i64 1]),
  (41, 26, .int .i64 27),
  (42, 27, .tuple [.agg [.int .i64 3, .int .i64 27, .int .i64 0, .str [117, 56]], .int .i64 2]),
  (41, 29, .int .i64 29),
  (42, 29, .tuple [.agg [.int .i64 4, .int .i64 29, .int .i64 0, .str [91]], .int .i64 1]),
  (41, 30, .int .i64 30),
  (42, 30, .tuple [.agg [.int .i64 2, .int .i64 30, .int .i64 5, .str []], .int .i64 1]),
  (41, 31, .int .i64 31),
  (42, 31, .tuple [.agg [.int .i64 4, .int .i64 31, .int .i64 0, .str [93]], .int .i64 1]),
  (41, 32, .int .i64 32),
  (42, 32, .tuple [.agg [.int .i64 4, .int .i64 32, .int .i64 0, .str [41]], .int .i64 1]),
  (41, 33, .int .i64 34),
  (42, 34, .tuple [.agg [.int .i64 4, .int .i64 34, .int .i64 0, .str [123]], .int .i64 1]),
  (41, 35, .int .i64 36),
  (42, 36, .tuple [.agg [.int .i64 4, .int .i64 36, .int .i64 0, .str [125]], .int .i64 1]),
  (41, 37, .int .i64 37)]
theorem tab30_ok : ∀ e ∈ tab30, evW Tryz.prog ann e.1 [.str tx, .int .i64 e.2.1] [] = some (.ret e.2.2, []) := by
  unfold tab30
  refine List.forall_mem_cons.2 ⟨evW_run _ _ _ _ _ _ nx0, ?_⟩
  refine List.forall_mem_cons.2 ⟨evW_run _ _ _ _ _ _ one0, ?_⟩
  refine List.forall_mem_cons.2 ⟨evW_run _ _ _ _ _ _ nxt0, ?_⟩
  refine List.forall_mem_cons.2 ⟨evW_run _ _ _ _ _ _ one1, ?_⟩
  refine List.forall_mem_cons.2 ⟨evW_run _ _ _ _ _ _ nxt1, ?_⟩
  refine List.forall_mem_cons.2 ⟨evW_run _ _ _ _ _ _ one2, ?_⟩
  refine List.forall_mem_cons.2 ⟨evW_run _ _ _ _ _ _ nxt2, ?_⟩
  refine List.forall_mem_cons.2 ⟨evW_run _ _ _ _ _ _ one3, ?_⟩
  refine List.forall_mem_cons.2 ⟨evW_run _ _ _ _ _ _ nxt3, ?_⟩
  refine List.forall_mem_cons.2 ⟨evW_run _ _ _ _ _ _ one4, ?_⟩
  refine List.forall_mem_cons.2 ⟨evW_run _ _ _ _ _ _ nxt4, ?_⟩
  refine List.forall_mem_cons.2 ⟨evW_run _ _ _ _ _ _ one5, ?_⟩
  refine List.forall_mem_cons.2 ⟨evW_run _ _ _ _ _ _ nxt5, ?_⟩
  refine List.forall_mem_cons.2 ⟨evW_run _ _ _ _ _ _ one6, ?_⟩
  refine List.forall_mem_cons.2 ⟨evW_run _ _ _ _ _ _ nxt6, ?_⟩
  refine List.forall_mem_cons.2 ⟨evW_run _ _ _ _ _ _ one7, ?_⟩
  refine List.forall_mem_cons.2 ⟨evW_run _ _ _ _ _ _ nxt7, ?_⟩
  refine List.forall_mem_cons.2 ⟨evW_run _ _ _ _ _ _ one8, ?_⟩
  refine List.forall_mem_cons.2 ⟨evW_run _ _ _ _ _ _ nxt8, ?_⟩
  refine List.forall_mem_cons.2 ⟨evW_run _ _ _ _ _ _ one9, ?_⟩
  refine List.forall_mem_cons.2 ⟨evW_run _ _ _ _ _ _ nxt9, ?_⟩
  refine List.forall_mem_cons.2 ⟨evW_run _ _ _ _ _ _ one10, ?_⟩
  refine List.forall_mem_cons.2 ⟨evW_run _ _ _ _ _ _ nxt10, ?_⟩
  refine List.forall_mem_cons.2 ⟨evW_run _ _ _ _ _ _ one11, ?_⟩
  refine List.forall_mem_cons.2 ⟨evW_run _ _ _ _ _ _ nxt11, ?_⟩
  refine List.forall_mem_cons.2 ⟨evW_run _ _ _ _ _ _ one12, ?_⟩
  refine List.forall_mem_cons.2 ⟨evW_run _ _ _ _ _ _ nxt12, ?_⟩
  refine List.forall_mem_cons.2 ⟨evW_run _ _ _ _ _ _ one13, ?_⟩
  refine List.forall_mem_cons.2 ⟨evW_run _ _ _ _ _ _ nxt13, ?_⟩
  refine List.forall_mem_cons.2 ⟨evW_run _ _ _ _ _ _ one14, ?_⟩
  refine List.forall_mem_cons.2 ⟨evW_run _ _ _ _ _ _ nxt14, ?_⟩
  refine List.forall_mem_cons.2 ⟨evW_run _ _ _ _ _ _ one15, ?_⟩
  refine List.forall_mem_cons.2 ⟨evW_run _ _ _ _ _ _ nxt15, ?_⟩
  refine List.forall_mem_cons.2 ⟨evW_run _ _ _ _ _ _ one16, ?_⟩
  refine List.forall_mem_cons.2 ⟨evW_run _ _ _ _ _ _ nxt16, ?_⟩
  refine List.forall_mem_cons.2 ⟨evW_run _ _ _ _ _ _ one17, ?_⟩
  refine List.forall_mem_cons.2 ⟨evW_run _ _ _ _ _ _ nxt17, ?_⟩
  simp
def T30 : CallO := fun f args h => match args, h with
  | [.str s, .int .i64 p], [] => if s = tx then (tab30.find? fun e => e.1 == f && e.2.1 == p).map fun e => (.ret e.2.2, []) else none
  | _, _ => none
theorem T30_ok : ∀ f args h r, T30 f args h = some r → evW Tryz.prog ann f args h = some r := by
  intro f args h r ht
  unfold T30 at ht
  split at ht
  · rename_i s p
    by_cases hs : s = tx
    · subst hs
      rw [if_pos rfl] at ht
      obtain ⟨e, he, rfl⟩ := Option.map_eq_some_iff.1 ht
      have h1 := List.mem_of_find?_eq_some he
      have h2 := List.find?_some he
      simp only [Bool.and_eq_true, beq_iff_eq] at h2
      have := tab30_ok e h1
      rw [h2.1, h2.2] at this
      exact this
    · rw [if_neg hs] at ht; cases ht
  · cases ht
set_option maxRecDepth 100000 in
theorem run30 : evT T30 Tryz.prog ann (loopN 40) 12 30 [.str tx] [] = some (.ret (.tuple [.slice tk .no, .agg [.int .i64 0, .int .i64 0]]), []) := by kernel_rfl
theorem w30 : evW Tryz.prog ann 30 [.str tx] [] = some (.ret (.tuple [.slice tk .no, .agg [.int .i64 0, .int .i64 0]]), []) := evT_run T30_ok _ _ _ _ _ _ run30
end Go.Proofs.YtckbkcjhalimpabGreatDoor

/-
  MEMORY: loads, stores, new blocks.
-/
import Derived.Test.YtkeoalhglkfbkaaDoorHkMem
set_option linter.unusedVariables false
set_option linter.unusedSimpArgs false
namespace Hk
open Go Go.RowKit

theorem add_plain (b off k : Nat) : Addr.add ⟨b, off, none⟩ k = ⟨b, off + k, none⟩ := by unfold Addr.add; split <;> simp_all

theorem getBlk_some {h : Heap} {id : Nat} {cs : List AVal} (hg : getBlk h id = some cs) : h[id]? = some (.cells cs) := by
  unfold getBlk at hg
  split at hg <;> simp_all

section
variable {P : Program} {G : Gh} {h : Heap} {w : World} {x y v : AVal} {X Y V : Value}

theorem cell_of (w : World) (g i : Nat) {C : Array Value} {t : TypeId} {fr : Nat × Nat} (hg : w.heap[g]? = some (.cells C t fr)) : w.cell? ⟨g, i, none⟩ = C[i]? := by
  simp [World.cell?, hg]

/-- Reading a variable whose cells are known. -/
theorem run_loadVar' {t : TypeId} {g : Bool} {n : Nat} (hg : isAggT P t = some g) (hn : sizeT P t = some n) (b o : Nat) (cs : List AVal) (off : Nat) (F : Nat → Value)
    (hb : apart g n cs off = some v) (hc : ∀ (j : Nat) (u : AVal), cs[j]? = some u → off ≤ j → w.cell? ⟨b, o + (j - off), none⟩ = some (F j) ∧ RelV G h u (F j)) :
    ∃ V, (loadVar t ⟨b, o, none⟩).run P w = .ok V w ∧ RelV G h v V := by
  unfold apart at hb
  cases g with
  | true =>
    simp only [cond_true] at hb
    split at hb <;> simp only [Option.some.injEq, reduceCtorEq] at hb
    rename_i hle
    subst hb
    have hl := run_loadCells (P := P) w ⟨b, o, none⟩ n (fun j => F (off + j)) (fun j hj => by
      have hj' : cs[off + j]? = some cs[off + j] := List.getElem?_eq_getElem (by omega)
      have := (hc (off + j) _ hj' (by omega)).1
      rw [add_plain]
      rwa [show off + j - off = j by omega] at this)
    refine ⟨.agg ((List.range n).map fun j => F (off + j)).toArray, ?_, .agg _ _ ?_ ?_⟩
    · simp [loadVar, run_isAgg' hg, run_sizeOf' hn, hl, Sem.run_pure]
    · simp; omega
    · intro i u hu
      rw [List.getElem?_take] at hu
      split at hu
      · rename_i hi
        rw [List.getElem?_drop] at hu
        have := (hc (off + i) u hu (by omega)).2
        simpa [Array.getD_eq_getD_getElem?, hi] using this
      · cases hu
  | false =>
    simp only [cond_false] at hb
    obtain ⟨h1, h2⟩ := hc off v hb (Nat.le_refl _)
    refine ⟨F off, ?_, h2⟩
    rw [Nat.sub_self, Nat.add_zero] at h1
    simp [loadVar, run_isAgg' hg, run_load, h1]

theorem aload_sound {t : TypeId} {g : Bool} {n : Nat} (hg : isAggT P t = some g) (hn : sizeT P t = some n) (i : Inv G h w) (hb : aload g n h x = some v) (hx : RelV G h x X) :
    ∃ V, (Instr.loadAt t X).run P w = .ok V w ∧ RelV G h v V := by
  unfold aload at hb
  split at hb
  · rename_i cs
    have hp := hx.pptr_inv
    cases hp with
    | pptr cs b off F hH hk hV =>
      obtain ⟨V, h1, h2⟩ := run_loadVar' (P := P) (G := G) (h := h) (w := w) hg hn b off cs 0 F hb (fun j u hu _ => ⟨i.ok _ _ _ (hH j u hu), .p _ _ (hV j u hu)⟩)
      exact ⟨V, by simp [Instr.loadAt, Instr.sureAddr, h1], h2⟩
  · rename_i id off
    split at hb
    · rename_i cs hgb
      unfold getBlk at hgb
      split at hgb <;> simp only [Option.some.injEq, reduceCtorEq] at hgb
      rename_i cs' hid
      subst hgb
      obtain ⟨rfl, _⟩ := hx.ptr_inv
      obtain ⟨C, e, h1, h2, h3, h4⟩ := i.blk id _ hid
      obtain ⟨V, r1, r2⟩ := run_loadVar' (P := P) (G := G) (h := h) (w := w) hg hn (G.blk id) off cs' off (fun j => C.getD j undef) hb (fun j u hu hj => by
        have hlt : j < C.size := by rw [h2]; exact (List.getElem?_eq_some_iff.1 hu).1
        refine ⟨?_, (h4 j u hu).2⟩
        rw [cell_of w _ _ h1, show off + (j - off) = j by omega, Array.getElem?_eq_getElem hlt]
        simp [Array.getD_eq_getD_getElem?, hlt])
      exact ⟨V, by simp [Instr.loadAt, Instr.sureAddr, r1], r2⟩
    · cases hb
  · cases hb

/-! ### Storing -/

theorem length_putCells (cs vs : List AVal) (off : Nat) (h : off + vs.length ≤ cs.length) : (putCells cs off vs).length = cs.length := by
  simp [putCells]; omega

theorem getElem?_putCells (cs vs : List AVal) (off i : Nat) (h : off + vs.length ≤ cs.length) :
    (putCells cs off vs)[i]? = if i < off then cs[i]? else if i < off + vs.length then vs[i - off]? else cs[i]? := by
  unfold putCells
  by_cases h1 : i < off
  · rw [if_pos h1, List.append_assoc, List.getElem?_append_left (by simp; omega), List.getElem?_take, if_pos h1]
  · rw [if_neg h1, List.append_assoc, List.getElem?_append_right (by simp; omega)]
    simp only [List.length_take]
    rw [Nat.min_eq_left (by omega)]
    by_cases h2 : i < off + vs.length
    · rw [if_pos h2, List.getElem?_append_left (by omega)]
    · rw [if_neg h2, List.getElem?_append_right (by omega), List.getElem?_drop]
      congr 1; omega

theorem getElem?_putRow (C : Array Value) (U : List Value) (off i : Nat) (h : off + U.length ≤ C.size) :
    (C.toList.take off ++ U ++ C.toList.drop (off + U.length)).toArray[i]? = if i < off then C[i]? else if i < off + U.length then U[i - off]? else C[i]? := by
  rw [List.getElem?_toArray]
  by_cases h1 : i < off
  · rw [if_pos h1, List.append_assoc, List.getElem?_append_left (by simp; omega), List.getElem?_take, if_pos h1, Array.getElem?_toList]
  · rw [if_neg h1, List.append_assoc, List.getElem?_append_right (by simp; omega)]
    simp only [List.length_take, Array.length_toList]
    rw [Nat.min_eq_left (by omega)]
    by_cases h2 : i < off + U.length
    · rw [if_pos h2, List.getElem?_append_left (by omega)]
    · rw [if_neg h2, List.getElem?_append_right (by omega), List.getElem?_drop, Array.getElem?_toList]
      congr 1; omega

/-- A block's cells written from a place on. -/
theorem Inv.write (i : Inv G h w) {id off : Nat} {cs vs : List AVal} {C : Array Value} {e : TypeId} {U : List Value} (hid : h[id]? = some (.cells cs))
    (hC : w.heap[G.blk id]? = some (.cells C e (0, 0))) (hle : off + vs.length ≤ cs.length) (hU : U.length = vs.length)
    (hrel : ∀ (j : Nat) (u : AVal), vs[j]? = some u → u.cellOk = true ∧ RelV G h u (U.getD j undef)) :
    Inv G (h.set id (.cells (putCells cs off vs))) (w.setRow (G.blk id) (C.toList.take off ++ U ++ C.toList.drop (off + U.length)).toArray) ∧
      Ext G h w G (h.set id (.cells (putCells cs off vs))) (w.setRow (G.blk id) (C.toList.take off ++ U ++ C.toList.drop (off + U.length)).toArray) := by
  obtain ⟨C', e', h1, h2, h3, h4⟩ := i.blk id _ hid
  rw [hC] at h1
  simp only [Option.some.injEq, Obj.cells.injEq] at h1
  obtain ⟨rfl, rfl, _⟩ := h1
  refine i.step id (.cells cs) _ hid (by simp) (by simp) (by simp) (by simp) ?_ (fun _ _ => rfl) (fun _ _ => rfl) (fun _ _ _ hh => hh) (fun _ _ _ _ => rfl) ?_ ?_ ?_ ?_
  · intro k _ hk
    exact setRow_other w _ k _ (fun e => hk (by simp [ownerB, e]))
  · intro b k v hb hv
    rcases hb with hb | hb
    · have := i.ok b k v hv
      have hlt : b < w.heap.size := by
        unfold World.cell? at this
        cases hh : w.heap[b]? with
        | none => simp [hh] at this
        | some o => exact (Array.getElem?_eq_some_iff.1 hh).1
      omega
    · simp only [ownerB, Option.some.injEq] at hb
      subst hb
      rw [h3] at hv; cases hv
  · exact ⟨(length_putCells cs vs off hle).symm, rfl⟩
  · intro m
    have hoff : off + U.length ≤ C.size := by rw [hU, h2]; exact hle
    refine ⟨_, e, setRow_heap w _ C _ e _ hC, ?_, h3, fun j u hu => ?_⟩
    · rw [length_putCells cs vs off hle]; simp; omega
    · rw [getElem?_putCells cs vs off j hle] at hu
      rw [Array.getD_eq_getD_getElem?, getElem?_putRow C U off j hoff]
      split at hu
      · rename_i hj
        rw [if_pos hj]
        exact ⟨(h4 j u hu).1, by have := (h4 j u hu).2.mono m; rwa [Array.getD_eq_getD_getElem?] at this⟩
      · rename_i hj
        rw [if_neg hj]
        split at hu
        · rename_i hj2
          rw [if_pos (by rw [hU]; exact hj2)]
          obtain ⟨a1, a2⟩ := hrel _ u hu
          refine ⟨a1, ?_⟩
          have := a2.mono m
          rwa [List.getD_eq_getElem?_getD] at this
        · rename_i hj2
          rw [if_neg (by rw [hU]; exact hj2)]
          exact ⟨(h4 j u hu).1, by have := (h4 j u hu).2.mono m; rwa [Array.getD_eq_getD_getElem?] at this⟩
  · intro b hb
    exact .inr hb

theorem astore_sound {t : TypeId} {n : Nat} {h' : Heap} (hn : sizeT P t = some n) (i : Inv G h w) (hb : astore n h x y = some h') (hx : RelV G h x X) (hy : RelV G h y Y) :
    ∃ w', (Instr.storeAt t X Y).run P w = .ok () w' ∧ Inv G h' w' ∧ Ext G h w G h' w' := by
  unfold astore at hb
  split at hb
  · rename_i id off
    cases hgb : getBlk h id with
    | none => simp [hgb] at hb
    | some cs' =>
      have hid := getBlk_some hgb
      simp only [hgb] at hb
      -- the cells that are stored
      obtain ⟨z, hz, hzr⟩ : ∃ z : AVal, y.cells = z.cells ∧ RelV G h z Y := ⟨_, rfl, hy⟩
      rw [hz] at hb
      split at hb
      case isFalse => cases hb
      rename_i hcond
      obtain ⟨hlen, hle, hall⟩ := hcond
      injection hb with hb
      subst hb
      obtain ⟨rfl, _⟩ := hx.ptr_inv
      obtain ⟨C, e, h1, h2, h3, h4⟩ := i.blk id _ hid
      obtain ⟨c1, c2⟩ := agg_cells hzr hall
      have hU : Y.cells.toList.length = z.cells.length := by rw [Array.length_toList, c1]
      have h1c : ∀ u ∈ Y.cells.toList, u.oneCell' = true := by
        intro u hu
        obtain ⟨j, hj⟩ := List.getElem?_of_mem hu
        have hjl : j < z.cells.length := by rw [← hU]; exact (List.getElem?_eq_some_iff.1 hj).1
        obtain ⟨a1, a2⟩ := c2 j _ (List.getElem?_eq_getElem hjl)
        have hval : Y.cells.getD j undef = u := by rw [Array.getD_eq_getD_getElem?, ← Array.getElem?_toList, hj]; rfl
        rw [hval] at a2
        exact (a2.oneCell a1).1
      have hst := run_storeCells_at P (G.blk id) off e Y.cells.toList 0 C w h1 (by rw [Array.length_toList, h2]; omega) h1c
      simp only [Nat.add_zero] at hst
      have hw := i.write (off := off) (vs := z.cells) (U := Y.cells.toList) hid h1 (by omega) hU (fun j u hu => by
        obtain ⟨a1, a2⟩ := c2 j u hu
        refine ⟨a1, ?_⟩
        rw [List.getD_eq_getElem?_getD, Array.getElem?_toList]
        rwa [Array.getD_eq_getD_getElem?] at a2)
      refine ⟨_, ?_, hw⟩
      have hsz : Y.cells.size = n := by omega
      simp [Instr.storeAt, Instr.sureAddr, storeVar, run_sizeOf' hn, hsz, hst]
  · cases hb

end
end Hk

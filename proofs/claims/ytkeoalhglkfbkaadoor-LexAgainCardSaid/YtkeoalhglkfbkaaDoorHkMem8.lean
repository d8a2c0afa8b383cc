/-
  NEW BLOCKS AT A RESERVED PLACE; maps.
-/
import Derived.Test.YtkeoalhglkfbkaaDoorHkMem7
set_option linter.unusedVariables false
set_option linter.unusedSimpArgs false
namespace Hk
open Go Go.RowKit

section
variable {P : Program} {G : Gh} {h : Heap} {w : World} {x y v : AVal} {X Y V : Value}

theorem tokCells_none : ∀ (vs : List AVal) (k : Nat), (tokCells k vs).2.length = 0 → (tokCells k vs).1 = vs
  | [], k, _ => rfl
  | v :: r, k, h0 => by
    by_cases hv : v = .slice [] .nil
    · subst hv; simp [tokCells] at h0
    · have he : tokCells k (v :: r) = (v :: (tokCells k r).1, (tokCells k r).2) := by
        rw [tokCells]
        exact hv
      rw [he] at h0 ⊢
      simp only [] at h0 ⊢
      rw [tokCells_none r k h0]

theorem Inv.newAt (i : Inv G h w) {id n : Nat} {v p : AVal} {h' : Heap} {Z : Value} (t : TypeId) (hb : anewAt id n h v = some (p, h')) (hr : RelV G h v Z) :
    ∃ G', Inv G' h' (w.alloc (.cells Z.cells t)) ∧ Ext G h w G' h' (w.alloc (.cells Z.cells t)) ∧ RelV G' h' p (.pointer (some ⟨w.heap.size, 0, none⟩)) ∧ Z.cells.size = n := by
  unfold anewAt at hb
  simp only [] at hb
  split at hb
  · rename_i hid
    split at hb
    case isFalse => cases hb
    rename_i hcond
    obtain ⟨hlen, hall, htok⟩ := hcond
    simp only [Option.some.injEq, Prod.mk.injEq] at hb
    obtain ⟨rfl, rfl⟩ := hb
    obtain ⟨c1, c2⟩ := agg_cells hr hall
    have hidl : id < h.length := (List.getElem?_eq_some_iff.1 hid).1
    let G' : Gh := { G with blk := fun j => if j = id then w.heap.size else G.blk j }
    have key := i.step (G' := G') (w' := w.alloc (.cells Z.cells t)) id .free (.cells v.cells) hid rfl rfl rfl (by simp) (fun k hk _ => heap_alloc_lt w _ k hk) (fun j hj => if_neg hj) (fun _ _ => rfl)
      (fun _ _ _ hh => hh) (fun _ _ _ _ => rfl) (fun b k v hb hv => by
        rcases hb with hb | hb
        · have := i.H_lt (b := b) (k := k) (v := v) hv; omega
        · cases hb) trivial
      (fun m => ⟨Z.cells, t, by show (w.alloc _).heap[if id = id then w.heap.size else _]? = _; rw [if_pos rfl]; exact heap_alloc_new w _, by omega,
        fun k => by show G.H (if id = id then w.heap.size else _) k = none; rw [if_pos rfl]; exact i.H_none (Nat.le_refl _), fun j u hu => ⟨(c2 j u hu).1, (c2 j u hu).2.mono m⟩⟩)
      (fun b hb => by
        have hb : some (if id = id then w.heap.size else G.blk id) = some b := hb
        rw [if_pos rfl] at hb; cases hb; exact .inl (Nat.le_refl _))
    refine ⟨G', key.1, key.2, ?_, by omega⟩
    have hp := RelV.ptr (G := G') (h := h.set id (.cells v.cells)) id 0 ⟨.cells v.cells, by simp [hidl], by simp⟩
    have he : G'.blk id = w.heap.size := if_pos rfl
    rwa [he] at hp
  · cases hb

/-- A row at a reserved token. -/
theorem Inv.newRowAt (i : Inv G h w) {id len sz : Nat} {cs row : List AVal} {C : Array Value} (e : TypeId) (hid : h[id]? = some .free) (hc : RelC G h cs C) (hp : pureRow cs = some row) (hl : C.size = len * sz) (hmax : len ≤ maxLen) (hsz0 : 0 < sz) :
    ∃ G', Inv G' (h.set id (.front len sz)) (w.alloc (.cells C e)) ∧ Ext G h w G' (h.set id (.front len sz)) (w.alloc (.cells C e)) ∧
      RelV G' (h.set id (.front len sz)) (.slice (rowsOf len sz row) (.own id)) (.slice (some ⟨w.heap.size, 0, none⟩) len len) := by
  obtain ⟨p1, p2⟩ := pureRow_spec hp
  obtain ⟨c1, c2⟩ := hc
  have hidl : id < h.length := (List.getElem?_eq_some_iff.1 hid).1
  have hHlt : ∀ {b k v}, G.H b k = some v → b ≠ w.heap.size := fun hv => by have := i.H_lt hv; omega
  have hmono : ∀ b k v, G.H b k = some v → (G.addRow id w.heap.size C (.slice (some ⟨w.heap.size, 0, none⟩) len len)).H b k = some v := by
    intro b k v hv; simp only [Gh.addRow, if_neg (hHlt hv), hv]
  have key := i.step (G' := G.addRow id w.heap.size C (.slice (some ⟨w.heap.size, 0, none⟩) len len)) (w' := w.alloc (.cells C e)) id .free (.front len sz) hid
    rfl rfl rfl (by simp) (fun k hk _ => heap_alloc_lt w _ k hk) (fun j hj => rfl) (fun j hj => by simp only [Gh.addRow]; rw [if_neg hj]) hmono
    (fun b k hb _ => by simp only [Gh.addRow]; rw [if_neg (by omega)])
    (fun b k v _ hv => by
      by_cases hbe : b = w.heap.size
      · subst hbe
        simp only [Gh.addRow, if_true] at hv
        rw [cell_of _ _ _ (heap_alloc_new w _), hv]
      · simp only [Gh.addRow, if_neg hbe] at hv
        have hlt := i.H_lt hv
        rw [World.cell?_of_block (w := w) (a := ⟨b, k, none⟩) (heap_alloc_lt w _ b hlt)]
        exact i.ok b k v hv) trivial
    (fun m => .inr ⟨w.heap.size, len, C, e, by simp [Gh.addRow], heap_alloc_new w _, Nat.le_refl _, hmax, hl, hsz0, fun k hk => by
        simp only [Gh.addRow, if_true]
        exact Array.getElem?_eq_none (by omega)⟩)
    (fun b ho => by simp only [ownerB, Gh.addRow, if_true, Value.ownBlock, Option.some.injEq] at ho; exact .inl (by omega))
  refine ⟨_, key.1, key.2, ?_⟩
  have hlen : (rowsOf len sz row).length = len := (rowsOf_spec len sz row (by omega)).1
  refine .own _ id len sz _ ?_ (by simp [hidl]) (by omega) (rowsOf_spec len sz row (by omega)).2.1 (fun _ => by simp [Gh.addRow])
  refine relP_rows (F := fun j => C.getD j undef) (by omega) (Nat.le_refl _) fun j c hj hlt => ?_
  have hjl : j < C.size := by omega
  obtain ⟨c0, hc0⟩ : ∃ c0, cs[j]? = some c0 := ⟨cs[j]'(by omega), List.getElem?_eq_getElem (by omega)⟩
  obtain ⟨c', e1, e2⟩ := p2 j c0 hc0
  rw [hj] at e1; cases e1
  obtain ⟨q1, q2⟩ := pure1_rel e2 (c2 j c0 hc0)
  refine ⟨?_, q1.mono hmono, q2⟩
  simp [Gh.addRow, Array.getD_eq_getD_getElem?, hjl]

theorem abuildSliceAt_sound {t e : TypeId} {id len sz : Nat} {z r : AVal} {h' : Heap} {parts : Array (Nat × Operand)} {f : Operand → AVal} {F : Operand → Value}
    (i : Inv G h w) (ht : P.underlying t = some (.slice e)) (hz : zeroT P e = some z) (hn : sizeT P e = some sz) (hsz : sz ≠ 0) (hle : len * sz ≤ 16777216) (hf : ∀ o, RelV G h (f o) (F o)) (hzj : z.isJunk = false)
    (hb : abuildSliceAt id len sz z.cells (parts.toList.map fun p => (p.1, f p.2)) h = some (r, h')) :
    ∃ V w' G', (Instr.buildSlice t len (parts.map fun (i, x) => (i, F x))).run P w = .ok V w' ∧ Inv G' h' w' ∧ Ext G h w G' h' w' ∧ RelV G' h' r V := by
  unfold abuildSliceAt at hb
  split at hb
  · rename_i rows hid hrows
    simp only [Option.some.injEq, Prod.mk.injEq] at hb
    obtain ⟨rfl, rfl⟩ := hb
    obtain ⟨cs, row, C, h1, rfl, h3, h4, h5, h6⟩ := buildRow_sound (G := G) (h := h) (w := w) ht hz hn hsz hle hf hzj hrows
    obtain ⟨G', g1, g2, g3⟩ := i.newRowAt e hid h3 h1 h4 h5 (by omega)
    exact ⟨_, _, G', h6, g1, g2, g3⟩
  · cases hb

theorem aboxAt_sound {t : TypeId} {id n : Nat} {p : AVal} {h' : Heap} (i : Inv G h w) (hb : anewAt id n h x = some (p, h')) (hx : RelV G h x X) :
    ∃ V w' G', (Instr.box t X).run P w = .ok V w' ∧ Inv G' h' w' ∧ Ext G h w G' h' w' ∧ RelV G' h' p V := by
  obtain ⟨G', h1, h2, h3, _⟩ := i.newAt t hb hx
  exact ⟨_, _, G', by simp [Instr.box, newVar, newRow, Sem.run_pure], h1, h2, h3⟩

theorem aallocAt_sound {t : TypeId} {id n : Nat} {z p : AVal} {h' : Heap} (i : Inv G h w) (hz : zeroT P t = some z) (hb : anewAt id n h z = some (p, h')) :
    ∃ V w' G', (Instr.alloc t true (.tuple #[])).run P w = .ok V w' ∧ Inv G' h' w' ∧ Ext G h w G' h' w' ∧ RelV G' h' p V := by
  obtain ⟨Z, hz1, hz2⟩ := run_zeroValue' (P := P) (G := G) (h := h) (w := w) hz
  obtain ⟨G', h1, h2, h3, _⟩ := i.newAt t hb hz2
  refine ⟨_, _, G', ?_, h1, h2, h3⟩
  simp [Instr.alloc, hz1, newVar, newRow, Sem.run_pure]

end
end Hk

/-
  MEMORY: new blocks, slices of literals, what is built.
-/
import Derived.Test.YtkeoalhglkfbkaaDoorHkMem2
set_option linter.unusedVariables false
set_option linter.unusedSimpArgs false
namespace Hk
open Go Go.RowKit

theorem Inv.H_lt {G : Gh} {h : Heap} {w : World} (i : Inv G h w) {b k : Nat} {v : Value} (hv : G.H b k = some v) : b < w.heap.size := by
  have := i.ok b k v hv
  unfold World.cell? at this
  cases hh : w.heap[b]? with
  | none => simp [hh] at this
  | some o => exact (Array.getElem?_eq_some_iff.1 hh).1
theorem Inv.H_none {G : Gh} {h : Heap} {w : World} (i : Inv G h w) {b k : Nat} (hb : w.heap.size ≤ b) : G.H b k = none := by
  cases hv : G.H b k with
  | none => rfl
  | some v => have := i.H_lt hv; omega

theorem tokCells_spec : ∀ (vs : List AVal) (k : Nat), (tokCells k vs).1.length = vs.length ∧ (∀ (j : Nat) (b : ABlk), (tokCells k vs).2[j]? = some b → b = .front 0 0) ∧
    ∀ (j : Nat) (c : AVal), (tokCells k vs).1[j]? = some c → vs[j]? = some c ∨ (vs[j]? = some (.slice [] .nil) ∧ ∃ id, k ≤ id ∧ c = .slice [] (.own id) ∧ (tokCells k vs).2[id - k]? = some (.front 0 0))
  | [], k => by simp [tokCells]
  | v :: r, k => by
    by_cases hv : v = .slice [] .nil
    · subst hv
      obtain ⟨h1, h2, h3⟩ := tokCells_spec r (k + 1)
      simp only [tokCells]
      refine ⟨by simp [h1], ?_, ?_⟩
      · intro j b hb
        cases j with
        | zero => simp at hb; exact hb.symm
        | succ j => exact h2 j b (by simpa using hb)
      · intro j c hc
        cases j with
        | zero => simp at hc; subst hc; exact .inr ⟨rfl, k, Nat.le_refl _, rfl, by simp⟩
        | succ j =>
          rcases h3 j c (by simpa using hc) with h4 | ⟨h4, id, h5, h6, h7⟩
          · exact .inl (by simpa using h4)
          · refine .inr ⟨by simpa using h4, id, by omega, h6, ?_⟩
            rw [show id - k = (id - (k + 1)) + 1 by omega]
            simpa using h7
    · have he : tokCells k (v :: r) = (v :: (tokCells k r).1, (tokCells k r).2) := by
        rw [tokCells]
        exact hv
      obtain ⟨h1, h2, h3⟩ := tokCells_spec r k
      rw [he]
      refine ⟨by simp [h1], h2, ?_⟩
      intro j c hc
      cases j with
      | zero => simp at hc; subst hc; exact .inl rfl
      | succ j =>
        rcases h3 j c (by simpa using hc) with h4 | ⟨h4, h5⟩
        · exact .inl (by simpa using h4)
        · exact .inr ⟨by simpa using h4, h5⟩

section
variable {P : Program} {G : Gh} {h : Heap} {w : World} {x y v : AVal} {X Y V : Value}

theorem RelV.nil_inv (r : RelV G h (.slice [] .nil) V) : V = .slice none 0 0 := by
  cases r with
  | p _ _ hp => cases hp
  | nil => rfl

def Gh.add (G : Gh) (n b : Nat) : Gh := { G with blk := fun i => if i = n then b else G.blk i, cur := fun i => if n < i then .slice none 0 0 else G.cur i }

theorem heap_alloc_lt (w : World) (o : Obj) (k : Nat) (hk : k < w.heap.size) : (w.alloc o).heap[k]? = w.heap[k]? := Below.heap_alloc w o k hk

/-- A new block of cells (and the tokens of its nil slices). -/
theorem Inv.new (i : Inv G h w) {n : Nat} {v p : AVal} {h' : Heap} {Z : Value} (t : TypeId) (hb : anew n h v = some (p, h')) (hr : RelV G h v Z) :
    ∃ G', Inv G' h' (w.alloc (.cells Z.cells t)) ∧ Ext G h w G' h' (w.alloc (.cells Z.cells t)) ∧ RelV G' h' p (.pointer (some ⟨w.heap.size, 0, none⟩)) ∧ Z.cells.size = n := by
  unfold anew at hb
  simp only [] at hb
  split at hb
  case isFalse => cases hb
  rename_i hcond
  obtain ⟨hlen, hall⟩ := hcond
  simp only [Option.some.injEq, Prod.mk.injEq] at hb
  obtain ⟨rfl, rfl⟩ := hb
  obtain ⟨c1, c2⟩ := agg_cells hr hall
  obtain ⟨t1, t2, t3⟩ := tokCells_spec v.cells (h.length + 1)
  have hsz : Z.cells.size = n := by omega
  refine ⟨G.add h.length w.heap.size, ?_⟩
  have key := i.push (G' := G.add h.length w.heap.size) (ext := .cells (tokCells (h.length + 1) v.cells).1 :: (tokCells (h.length + 1) v.cells).2) (w' := w.alloc (.cells Z.cells t))
    rfl rfl rfl (by simp) (fun k hk => heap_alloc_lt w _ k hk) (fun id hid => by simp [Gh.add]; omega) (fun id hid => by simp [Gh.add]; omega) (fun _ _ _ hh => hh) (fun _ _ _ => rfl)
    (fun b k v hb hv => by have := i.H_lt (b := b) (k := k) (v := v) hv; omega)
    (fun j bl hj m => by
      cases j with
      | zero =>
        simp at hj; subst hj
        refine ⟨Z.cells, t, by simp only [Gh.add, Nat.add_zero, if_true]; exact heap_alloc_new w _, by omega, fun k => by simp only [Gh.add, Nat.add_zero, if_true]; exact i.H_none (Nat.le_refl _), fun j u hu => ?_⟩
        rcases t3 j u hu with h4 | ⟨h4, id, h5, h6, h7⟩
        · exact ⟨(c2 j u h4).1, (c2 j u h4).2.mono m⟩
        · subst h6
          obtain ⟨_, hz⟩ := c2 j _ h4
          have hz := hz.nil_inv
          refine ⟨rfl, ?_⟩
          rw [hz]
          refine .own [] id 0 0 _ (.slice0 none 0) ?_ (Nat.le_refl _) (by simp) (fun _ => by simp only [Gh.add]; rw [if_pos (by omega)])
          rw [List.getElem?_append_right (by omega), show id - h.length = (id - (h.length + 1)) + 1 by omega]
          simpa using h7
      | succ j =>
        have hj' := t2 j bl (by simpa using hj)
        subst hj'
        exact .inl ⟨rfl, by simp only [Gh.add]; rw [if_pos (by omega)]⟩)
    (fun j bl b hj ho => by
      cases j with
      | zero => simp at hj; subst hj; simp only [ownerB, Gh.add, Nat.add_zero, if_true, Option.some.injEq] at ho; omega
      | succ j =>
        have hj' := t2 j bl (by simpa using hj)
        subst hj'
        simp only [ownerB, Gh.add] at ho
        rw [if_pos (by omega)] at ho
        cases ho)
    (fun j j' bl bl' b hj hj' ho ho' => by
      have : ∀ j bl, (ABlk.cells (tokCells (h.length + 1) v.cells).1 :: (tokCells (h.length + 1) v.cells).2)[j]? = some bl → ownerB (G.add h.length w.heap.size) (h.length + j) bl = some b → j = 0 := by
        intro j bl hj ho
        cases j with
        | zero => rfl
        | succ j =>
          have hj' := t2 j bl (by simpa using hj)
          subst hj'
          simp only [ownerB, Gh.add] at ho
          rw [if_pos (by omega)] at ho
          cases ho
      rw [this j bl hj ho, this j' bl' hj' ho'])
  refine ⟨key.1, key.2, ?_, hsz⟩
  have hp := RelV.ptr (G := G.add h.length w.heap.size) (h := h ++ .cells (tokCells (h.length + 1) v.cells).1 :: (tokCells (h.length + 1) v.cells).2) h.length 0
    ⟨.cells (tokCells (h.length + 1) v.cells).1, by simp, by simp⟩
  simpa [Gh.add] using hp

theorem abox_sound {t : TypeId} {n : Nat} {p : AVal} {h' : Heap} (i : Inv G h w) (hb : anew n h x = some (p, h')) (hx : RelV G h x X) :
    ∃ V w' G', (Instr.box t X).run P w = .ok V w' ∧ Inv G' h' w' ∧ Ext G h w G' h' w' ∧ RelV G' h' p V := by
  obtain ⟨G', h1, h2, h3, _⟩ := i.new t hb hx
  exact ⟨_, _, G', by simp [Instr.box, newVar, newRow, Sem.run_pure], h1, h2, h3⟩

theorem run_zeroValue' {t : TypeId} {z : AVal} (hz : zeroT P t = some z) : ∃ Z, (zeroValue t).run P w = .ok Z w ∧ RelV G h z Z := by
  unfold zeroT at hz
  cases hi : P.info? t with
  | none => simp [hi] at hz
  | some ti =>
    cases hzz : ti.zero with
    | none => simp [hi, hzz] at hz
    | some Z =>
      simp [hi, hzz] at hz; subst hz
      exact ⟨Z, by simp [zeroValue, Go.typeInfo, hi, hzz, Sem.run_pure], relV_ofConst G h Z⟩

theorem aalloc_sound {t : TypeId} {n : Nat} {z p : AVal} {h' : Heap} (i : Inv G h w) (hz : zeroT P t = some z) (hb : anew n h z = some (p, h')) :
    ∃ V w' G', (Instr.alloc t true (.tuple #[])).run P w = .ok V w' ∧ Inv G' h' w' ∧ Ext G h w G' h' w' ∧ RelV G' h' p V := by
  obtain ⟨Z, hz1, hz2⟩ := run_zeroValue' (P := P) (G := G) (h := h) (w := w) hz
  obtain ⟨G', h1, h2, h3, _⟩ := i.new t hb hz2
  refine ⟨_, _, G', ?_, h1, h2, h3⟩
  simp [Instr.alloc, hz1, newVar, newRow, Sem.run_pure]

end
end Hk

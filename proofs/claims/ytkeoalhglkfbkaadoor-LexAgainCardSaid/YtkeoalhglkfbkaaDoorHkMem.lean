/-
  MEMORY: how the relation of heaps goes over to new and changed blocks.
-/
import Derived.Test.YtkeoalhglkfbkaaDoorHkPure3
set_option linter.unusedVariables false
set_option linter.unusedSimpArgs false
namespace Hk
open Go Go.RowKit

def ownerB (G : Gh) (id : Nat) : ABlk → Option Nat
  | .cells _ | .map _ => some (G.blk id)
  | .front _ _ => (G.cur id).ownBlock
  | _ => none

theorem owner_eq {G : Gh} {h : Heap} {id : Nat} {bl : ABlk} (hb : h[id]? = some bl) : owner G h id = ownerB G id bl := by
  unfold owner; rw [hb]; cases bl <;> rfl
theorem owner_some {G : Gh} {h : Heap} {id b : Nat} (ho : owner G h id = some b) : ∃ bl, h[id]? = some bl ∧ ownerB G id bl = some b := by
  cases hb : h[id]? with
  | none => simp [owner, hb] at ho
  | some bl => exact ⟨bl, rfl, by rw [← owner_eq hb]; exact ho⟩

theorem BlkOk.lt {G : Gh} {h : Heap} {w : World} {id b : Nat} {bl : ABlk} (hk : BlkOk G h w id bl) (ho : ownerB G id bl = some b) : b < w.heap.size := by
  have aux : ∀ {o : Obj}, w.heap[b]? = some o → b < w.heap.size := fun h => (Array.getElem?_eq_some_iff.1 h).1
  cases bl with
  | free => cases ho
  | gone => cases ho
  | cells cs => obtain ⟨C, e, h1, _⟩ := hk; cases ho; exact aux h1
  | map es => obtain ⟨E, c, h1, _⟩ := hk; cases ho; exact aux h1
  | front n sz =>
    rcases hk with ⟨_, h1⟩ | ⟨b', cap, C, e, h1, h2, _⟩
    · simp [ownerB, h1, Value.ownBlock] at ho
    · simp [ownerB, h1, Value.ownBlock] at ho; subst ho; exact aux h2

theorem Inv.lt {G : Gh} {h : Heap} {w : World} (i : Inv G h w) {id b : Nat} (ho : owner G h id = some b) : b < w.heap.size := by
  obtain ⟨bl, hb, hob⟩ := owner_some ho
  exact (i.blk id bl hb).lt hob

theorem BlkOk.keep {G G' : Gh} {h h' : Heap} {w w' : World} {id : Nat} {bl : ABlk} (m : Mono G h G' h') (hblk : G'.blk id = G.blk id) (hcur : G'.cur id = G.cur id)
    (hh : ∀ b, ownerB G id bl = some b → w'.heap[b]? = w.heap[b]? ∧ ∀ k, G'.H b k = G.H b k) (hk : BlkOk G h w id bl) : BlkOk G' h' w' id bl := by
  cases bl with
  | free => trivial
  | gone => trivial
  | cells cs =>
    obtain ⟨C, e, h1, h2, h3, h4⟩ := hk
    obtain ⟨e1, e2⟩ := hh _ rfl
    exact ⟨C, e, by rw [hblk, e1, h1], h2, fun k => by rw [hblk, e2, h3], fun i v hv => ⟨(h4 i v hv).1, (h4 i v hv).2.mono m⟩⟩
  | map es =>
    obtain ⟨E, c, h1, h2, h3, h4⟩ := hk
    obtain ⟨e1, e2⟩ := hh _ rfl
    refine ⟨E, c, by rw [hblk, e1, h1], h2, fun k => by rw [hblk, e2, h3], fun i kv hv => ?_⟩
    obtain ⟨mm, a1, a2, a3, a4⟩ := h4 i kv hv
    exact ⟨mm, a1, a2, a3.mono m.hmono, a4.mono m⟩
  | front n sz =>
    rcases hk with ⟨h0, h1⟩ | ⟨b, cap, C, e, h1, h2, h3, h4, h5, h50, h6⟩
    · exact .inl ⟨h0, by rw [hcur, h1]⟩
    · obtain ⟨e1, e2⟩ := hh b (by simp [ownerB, h1, Value.ownBlock])
      exact .inr ⟨b, cap, C, e, by rw [hcur, h1], by rw [e1, h2], h3, h4, h5, h50, fun k hk => by rw [e2, h6 k hk]⟩

/-- New abstract blocks behind the old ones; what was there in the world stands. -/
theorem Inv.push {G G' : Gh} {h : Heap} {ext : List ABlk} {w w' : World} (i : Inv G h w)
    (os : w'.os = w.os) (tape : w'.tape = w.tape) (output : w'.output = w.output) (size : w.heap.size ≤ w'.heap.size)
    (heap : ∀ k, k < w.heap.size → w'.heap[k]? = w.heap[k]?)
    (gblk : ∀ id, id < h.length → G'.blk id = G.blk id) (gcur : ∀ id, id < h.length → G'.cur id = G.cur id)
    (hH : ∀ b k v, G.H b k = some v → G'.H b k = some v) (hHold : ∀ b k, b < w.heap.size → G'.H b k = G.H b k)
    (hok : ∀ b k v, w.heap.size ≤ b → G'.H b k = some v → w'.cell? ⟨b, k, none⟩ = some v)
    (hnew : ∀ j bl, ext[j]? = some bl → Mono G h G' (h ++ ext) → BlkOk G' (h ++ ext) w' (h.length + j) bl)
    (hown : ∀ j bl b, ext[j]? = some bl → ownerB G' (h.length + j) bl = some b → w.heap.size ≤ b)
    (hinj : ∀ j j' bl bl' b, ext[j]? = some bl → ext[j']? = some bl' → ownerB G' (h.length + j) bl = some b → ownerB G' (h.length + j') bl' = some b → j = j') :
    Inv G' (h ++ ext) w' ∧ Ext G h w G' (h ++ ext) w' := by
  have m : Mono G h G' (h ++ ext) := ⟨hH, fun id bl hb => by
    have hlt : id < h.length := (List.getElem?_eq_some_iff.1 hb).1
    refine ⟨bl, by rw [List.getElem?_append_left hlt]; exact hb, ?_⟩
    have e1 := gblk id hlt
    have e2 := gcur id hlt
    cases bl <;> simp [Kind, e1, e2]⟩
  have hget : ∀ id bl, (h ++ ext)[id]? = some bl → (id < h.length ∧ h[id]? = some bl) ∨ (h.length ≤ id ∧ ext[id - h.length]? = some bl) := by
    intro id bl hb
    by_cases hlt : id < h.length
    · rw [List.getElem?_append_left hlt] at hb; exact .inl ⟨hlt, hb⟩
    · rw [List.getElem?_append_right (by omega)] at hb; exact .inr ⟨by omega, hb⟩
  have own : ∀ id b, owner G' (h ++ ext) id = some b → (id < h.length ∧ owner G h id = some b) ∨ (h.length ≤ id ∧ w.heap.size ≤ b ∧ ∃ bl, ext[id - h.length]? = some bl ∧ ownerB G' id bl = some b) := by
    intro id b ho
    obtain ⟨bl, hb, hob⟩ := owner_some ho
    rcases hget id bl hb with ⟨hlt, h1⟩ | ⟨hge, h1⟩
    · refine .inl ⟨hlt, ?_⟩
      rw [owner_eq h1]
      cases bl <;> simp_all [ownerB]
    · have he : h.length + (id - h.length) = id := by omega
      exact .inr ⟨hge, hown _ bl b h1 (by rw [he]; exact hob), bl, h1, hob⟩
  refine ⟨⟨?_, ?_, ?_⟩, ⟨os, tape, output, size, fun b hb _ => ⟨heap b hb, fun k => hHold b k hb⟩, hH, ?_, m.kinds⟩⟩
  · intro b k v hv
    by_cases hb : b < w.heap.size
    · rw [hHold b k hb] at hv
      rw [World.cell?_of_block (w := w) (heap b hb)]
      exact i.ok b k v hv
    · exact hok b k v (by omega) hv
  · intro id bl hb
    rcases hget id bl hb with ⟨hlt, h1⟩ | ⟨hge, h1⟩
    · refine (i.blk id bl h1).keep m (gblk id hlt) (gcur id hlt) fun b ho => ?_
      have hb := (i.blk id bl h1).lt ho
      exact ⟨heap b hb, fun k => hHold b k hb⟩
    · have := hnew (id - h.length) bl h1 m
      rwa [show h.length + (id - h.length) = id by omega] at this
  · intro x y b hx hy
    rcases own x b hx with ⟨_, h1⟩ | ⟨hx1, hx2, bl, hx3, hx4⟩ <;> rcases own y b hy with ⟨_, h2⟩ | ⟨hy1, hy2, bl', hy3, hy4⟩
    · exact i.inj x y b h1 h2
    · have := i.lt h1; omega
    · have := i.lt h2; omega
    · have := hinj (x - h.length) (y - h.length) bl bl' b hx3 hy3 (by rw [show h.length + (x - h.length) = x by omega]; exact hx4) (by rw [show h.length + (y - h.length) = y by omega]; exact hy4)
      omega
  · intro id b ho hb
    rcases own id b ho with ⟨_, h1⟩ | ⟨_, h2, _⟩
    · exact h1
    · omega

/-- One abstract block changes; in the world its own block alone, and new ones. -/
theorem Inv.step {G G' : Gh} {h : Heap} {w w' : World} (i : Inv G h w) (id : Nat) (old new : ABlk) (hold : h[id]? = some old)
    (os : w'.os = w.os) (tape : w'.tape = w.tape) (output : w'.output = w.output) (size : w.heap.size ≤ w'.heap.size)
    (heap : ∀ k, k < w.heap.size → ownerB G id old ≠ some k → w'.heap[k]? = w.heap[k]?)
    (gblk : ∀ j, j ≠ id → G'.blk j = G.blk j) (gcur : ∀ j, j ≠ id → G'.cur j = G.cur j)
    (hH : ∀ b k v, G.H b k = some v → G'.H b k = some v) (hHold : ∀ b k, b < w.heap.size → ownerB G id old ≠ some b → G'.H b k = G.H b k)
    (hok : ∀ b k v, (w.heap.size ≤ b ∨ ownerB G id old = some b) → G'.H b k = some v → w'.cell? ⟨b, k, none⟩ = some v)
    (hkind : Kind G G' id old new)
    (hnew : Mono G h G' (h.set id new) → BlkOk G' (h.set id new) w' id new)
    (hown : ∀ b, ownerB G' id new = some b → w.heap.size ≤ b ∨ ownerB G id old = some b) :
    Inv G' (h.set id new) w' ∧ Ext G h w G' (h.set id new) w' := by
  have hlt : id < h.length := (List.getElem?_eq_some_iff.1 hold).1
  have hsame : (h.set id new)[id]? = some new := by simp [hlt]
  have hne : ∀ j, j ≠ id → (h.set id new)[j]? = h[j]? := fun j hj => List.getElem?_set_ne (Ne.symm hj)
  have m : Mono G h G' (h.set id new) := ⟨hH, fun j bl hb => by
    by_cases hj : j = id
    · subst hj; rw [hold] at hb; cases hb; exact ⟨new, hsame, hkind⟩
    · refine ⟨bl, by rw [hne j hj]; exact hb, ?_⟩
      have e1 := gblk j hj
      have e2 := gcur j hj
      cases bl <;> simp [Kind, e1, e2]⟩
  have own : ∀ j b, owner G' (h.set id new) j = some b → (j ≠ id ∧ owner G h j = some b) ∨ (j = id ∧ (w.heap.size ≤ b ∨ owner G h id = some b)) := by
    intro j b ho
    by_cases hj : j = id
    · subst hj
      rw [owner_eq hsame] at ho
      exact .inr ⟨rfl, by rw [owner_eq hold]; exact hown b ho⟩
    · refine .inl ⟨hj, ?_⟩
      obtain ⟨bl, hb, hob⟩ := owner_some ho
      rw [hne j hj] at hb
      rw [owner_eq hb]
      have e1 := gblk j hj
      have e2 := gcur j hj
      cases bl <;> simp_all [ownerB]
  refine ⟨⟨?_, ?_, ?_⟩, ⟨os, tape, output, size, fun b hb hn => ?_, hH, ?_, m.kinds⟩⟩
  · intro b k v hv
    by_cases hb : b < w.heap.size ∧ ownerB G id old ≠ some b
    · rw [hHold b k hb.1 hb.2] at hv
      rw [World.cell?_of_block (w := w) (heap b hb.1 hb.2)]
      exact i.ok b k v hv
    · refine hok b k v ?_ hv
      by_cases h1 : w.heap.size ≤ b
      · exact .inl h1
      · exact .inr (Classical.byContradiction fun h2 => hb ⟨by omega, h2⟩)
  · intro j bl hb
    by_cases hj : j = id
    · subst hj; rw [hsame] at hb; cases hb; exact hnew m
    · rw [hne j hj] at hb
      refine (i.blk j bl hb).keep m (gblk j hj) (gcur j hj) fun b ho => ?_
      have h1 := (i.blk j bl hb).lt ho
      have h2 : ownerB G id old ≠ some b := fun e => hj (i.inj j id b (by rw [owner_eq hb]; exact ho) (by rw [owner_eq hold]; exact e))
      exact ⟨heap b h1 h2, fun k => hHold b k h1 h2⟩
  · intro x y b hx hy
    rcases own x b hx with ⟨hx1, h1⟩ | ⟨rfl, h1⟩ <;> rcases own y b hy with ⟨hy1, h2⟩ | ⟨rfl, h2⟩
    · exact i.inj x y b h1 h2
    · rcases h2 with h2 | h2
      · have := i.lt h1; omega
      · exact i.inj x y b h1 h2
    · rcases h1 with h1 | h1
      · have := i.lt h2; omega
      · exact i.inj x y b h1 h2
    · rfl
  · have : ownerB G id old ≠ some b := fun e => hn id (by rw [owner_eq hold]; exact e)
    exact ⟨heap b hb this, fun k => hHold b k hb this⟩
  · intro j b ho hb
    rcases own j b ho with ⟨_, h1⟩ | ⟨rfl, h1 | h1⟩
    · exact h1
    · omega
    · exact h1

end Hk

/-
  APPEND.
-/
import Derived.Test.YtkeoalhglkfbkaaDoorHkMem5
set_option linter.unusedVariables false
set_option linter.unusedSimpArgs false
namespace Hk
open Go Go.RowKit

theorem Inv.drew {G : Gh} {h : Heap} {w : World} (i : Inv G h w) : Inv G h w.drew := ⟨i.ok, fun id bl hb => by have := i.blk id bl hb; cases bl <;> exact this, i.inj⟩
theorem Ext.drew (G : Gh) (h : Heap) (w : World) : Ext G h w G h w.drew :=
  ⟨rfl, rfl, rfl, Nat.le_refl _, fun _ _ _ => ⟨rfl, fun _ => rfl⟩, fun _ _ _ h => h, fun _ _ h _ => h, fun id bl hb => ⟨bl, hb, Kind.refl G id bl⟩⟩

section
variable {P : Program} {G : Gh} {h : Heap} {w : World} {x y v : AVal} {X Y V : Value}

/-- The cells of a slice: as values, and as related cells. -/
structure Src (G : Gh) (h : Heap) (w : World) (sz : Nat) (rows : List (List AVal)) (X : Value) (a : Option Addr) (news : List Value) : Prop where
  form : ∃ cap, X = .slice a rows.length cap
  len : news.length = rows.length * sz
  rlen : ∀ r ∈ rows, r.length = sz
  at_ : ∀ (j : Nat) u, news[j]? = some u → ∃ ad, a = some ad ∧ w.cell? (ad.add j) = some u
  rel : ∀ (i j : Nat) (row : List AVal) (c : AVal), rows[i]? = some row → row[j]? = some c → ∃ u, news[i * sz + j]? = some u ∧ RelP G.H c u ∧ c.cellOk = true

theorem arowsS_sound {sz : Nat} {rows : List (List AVal)} (i : Inv G h w) (hb : arowsS sz h x = some rows) (hx : RelV G h x X) : ∃ a news, Src G h w sz rows X a news := by
  unfold arowsS at hb
  split at hb
  · rename_i rows' tok
    split at hb
    case isFalse => cases hb
    rename_i hall
    simp only [Option.some.injEq] at hb; subst hb
    have hrl : ∀ r ∈ rows', r.length = sz := fun r hr => by simpa using List.all_eq_true.1 hall r hr
    have hp := hx.slice_inv
    cases hp with
    | slice0 a cap => exact ⟨a, [], ⟨cap, rfl⟩, by simp, by simp, by simp, by simp⟩
    | slice rows b off cap sz' F hr hc hH hk hV =>
      have hszz : 0 < rows'.length → sz' = sz := fun h0 => by
        have hm : rows'[0]? = some rows'[0] := List.getElem?_eq_getElem h0
        rw [← hr _ (List.mem_of_getElem? hm), hrl _ (List.mem_of_getElem? hm)]
      refine ⟨some ⟨b, off, none⟩, (List.range (rows'.length * sz)).map F, ⟨cap, rfl⟩, by simp, hrl, ?_, ?_⟩
      · intro j u hu
        have hj : j < rows'.length * sz := by simpa using (List.getElem?_eq_some_iff.1 hu).1
        have hpos : 0 < sz := by rcases Nat.eq_zero_or_pos sz with h0 | h0; · rw [h0] at hj; omega
                                 · exact h0
        have hrow : j / sz < rows'.length := (Nat.div_lt_iff_lt_mul hpos).2 hj
        have h1 : rows'[j / sz]? = some rows'[j / sz] := List.getElem?_eq_getElem hrow
        have hl := hrl _ (List.mem_of_getElem? h1)
        have h2 : rows'[j / sz][j % sz]? = some (rows'[j / sz][j % sz]'(by rw [hl]; exact Nat.mod_lt _ hpos)) := List.getElem?_eq_getElem _
        have hs' := hszz (Nat.lt_of_le_of_lt (Nat.zero_le _) hrow)
        subst hs'
        have h3 := hH _ _ _ _ h1 h2
        rw [show j / sz' * sz' + j % sz' = j by rw [Nat.mul_comm]; exact Nat.div_add_mod j sz'] at h3
        refine ⟨_, rfl, ?_⟩
        rw [add_plain, i.ok _ _ _ h3]
        simp [hj] at hu
        rw [hu]
      · intro i' j row c h1 h2
        have hl := hrl _ (List.mem_of_getElem? h1)
        have hi' : i' < rows'.length := (List.getElem?_eq_some_iff.1 h1).1
        have hj' : j < sz := by rw [← hl]; exact (List.getElem?_eq_some_iff.1 h2).1
        have hs' := hszz (by omega)
        subst hs'
        refine ⟨F (i' * sz' + j), ?_, hV _ _ _ _ h1 h2, hk _ _ _ _ h1 h2⟩
        have : i' * sz' + j < rows'.length * sz' := by
          calc i' * sz' + j < i' * sz' + sz' := by omega
            _ = (i' + 1) * sz' := by rw [Nat.add_mul]; omega
            _ ≤ rows'.length * sz' := Nat.mul_le_mul_right _ hi'
        simp [this]
  · rename_i id off len sz'
    cases hgb : getBlk h id with
    | none => simp [hgb] at hb
    | some cs =>
      have hid := getBlk_some hgb
      simp only [hgb] at hb
      split at hb
      case isFalse => cases hb
      rename_i hcond
      obtain ⟨rfl, hle⟩ := hcond
      split at hb <;> simp only [Option.some.injEq, reduceCtorEq] at hb
      rename_i row hrow
      subst hb
      obtain ⟨a, cap, rfl, hlc, ha⟩ := hx.mslice_inv
      obtain ⟨C, e, h1, h2, h3, h4⟩ := i.blk id _ hid
      obtain ⟨p1, p2⟩ := pureRow_spec hrow
      have hdl : ((cs.drop off).take (len * sz')).length = len * sz' := by rw [List.length_take, List.length_drop]; omega
      rw [hdl] at p1
      obtain ⟨q1, q2, q3⟩ := rowsOf_spec len sz' row (by omega)
      refine ⟨a, (C.toList.drop off).take (len * sz'), ⟨cap, by rw [q1]⟩, by rw [q1, List.length_take, List.length_drop, Array.length_toList]; omega, q2, ?_, ?_⟩
      · intro j u hu
        rw [List.getElem?_take] at hu
        split at hu
        · rename_i hj
          have hpos : 0 < len := by rcases Nat.eq_zero_or_pos len with h0 | h0; · rw [h0] at hj; omega
                                    · exact h0
          obtain ⟨rfl, _⟩ := ha hpos
          refine ⟨_, rfl, ?_⟩
          rw [add_plain, cell_of w _ _ h1]
          rw [List.getElem?_drop, Array.getElem?_toList] at hu
          exact hu
        · cases hu
      · intro i' j r c hi hj
        have hrow' := q3 i' j r c hi hj
        have hlt : i' * sz' + j < len * sz' := by
          have := (List.getElem?_eq_some_iff.1 hrow').1; omega
        have hget : ∃ c0, ((cs.drop off).take (len * sz'))[i' * sz' + j]? = some c0 := ⟨_, List.getElem?_eq_getElem (by omega)⟩
        obtain ⟨c0, hc0⟩ := hget
        obtain ⟨c', e1, e2⟩ := p2 _ c0 hc0
        rw [hrow'] at e1; cases e1
        have hc1 : cs[off + (i' * sz' + j)]? = some c0 := by
          rw [List.getElem?_take, if_pos hlt, List.getElem?_drop] at hc0; exact hc0
        obtain ⟨_, hrel⟩ := h4 _ c0 hc1
        obtain ⟨z1, z2⟩ := pure1_rel e2 hrel
        have hCl : off + (i' * sz' + j) < C.size := by rw [h2]; exact (List.getElem?_eq_some_iff.1 hc1).1
        refine ⟨C.getD (off + (i' * sz' + j)) undef, ?_, z1, z2⟩
        rw [List.getElem?_take, if_pos hlt, List.getElem?_drop, Array.getElem?_toList, Array.getElem?_eq_getElem hCl]
        simp [Array.getD_eq_getD_getElem?, hCl]
  · cases hb

/-- A source's cells are one cell each. -/
theorem Src.one {sz : Nat} {rows : List (List AVal)} {a : Option Addr} {news : List Value} (s : Src G h w sz rows X a news) : ∀ u ∈ news, u.oneCell' = true := by
  intro u hu
  obtain ⟨j, hj⟩ := List.getElem?_of_mem hu
  have hjl : j < rows.length * sz := by rw [← s.len]; exact (List.getElem?_eq_some_iff.1 hj).1
  have hpos : 0 < sz := by rcases Nat.eq_zero_or_pos sz with h0 | h0; · rw [h0] at hjl; omega
                           · exact h0
  have hrow : j / sz < rows.length := (Nat.div_lt_iff_lt_mul hpos).2 hjl
  have h1 : rows[j / sz]? = some rows[j / sz] := List.getElem?_eq_getElem hrow
  have hl := s.rlen _ (List.mem_of_getElem? h1)
  have h2 : rows[j / sz][j % sz]? = some (rows[j / sz][j % sz]'(by rw [hl]; exact Nat.mod_lt _ hpos)) := List.getElem?_eq_getElem _
  obtain ⟨u', e1, e2, e3⟩ := s.rel _ _ _ _ h1 h2
  rw [show j / sz * sz + j % sz = j by rw [Nat.mul_comm]; exact Nat.div_add_mod j sz] at e1
  rw [hj] at e1; cases e1
  exact (e2.oneCell e3).1

/-- Persistent rows in a block whose first cells are known. -/
theorem relP_block {H : Nat → Nat → Option Value} {rows : List (List AVal)} {sz b cap : Nat} {all : List Value} (hr : ∀ r ∈ rows, r.length = sz) (hc : rows.length ≤ cap)
    (hH : ∀ (k : Nat) u, all[k]? = some u → H b k = some u)
    (hrel : ∀ (i j : Nat) (row : List AVal) (c : AVal), rows[i]? = some row → row[j]? = some c → ∃ u, all[i * sz + j]? = some u ∧ RelP H c u ∧ c.cellOk = true) :
    RelP H (.slice rows .no) (.slice (some ⟨b, 0, none⟩) rows.length cap) := by
  refine .slice rows b 0 cap sz (fun k => all.getD k undef) hr hc ?_ ?_ ?_
  · intro i j row c h1 h2
    obtain ⟨u, e1, _⟩ := hrel i j row c h1 h2
    rw [Nat.zero_add, hH _ u e1, List.getD_eq_getElem?_getD, e1]; rfl
  · intro i j row c h1 h2; obtain ⟨u, _, _, e3⟩ := hrel i j row c h1 h2; exact e3
  · intro i j row c h1 h2
    obtain ⟨u, e1, e2, _⟩ := hrel i j row c h1 h2
    rw [List.getD_eq_getElem?_getD, e1]; exact e2

/-- The cells of two lists of rows, one behind the other. -/
theorem rel_append {H : Nat → Nat → Option Value} {A B : List (List AVal)} {sz : Nat} {xs ys : List Value} (hxl : xs.length = A.length * sz) (hA : ∀ r ∈ A, r.length = sz)
    (h1 : ∀ (i j : Nat) (row : List AVal) (c : AVal), A[i]? = some row → row[j]? = some c → ∃ u, xs[i * sz + j]? = some u ∧ RelP H c u ∧ c.cellOk = true)
    (h2 : ∀ (i j : Nat) (row : List AVal) (c : AVal), B[i]? = some row → row[j]? = some c → ∃ u, ys[i * sz + j]? = some u ∧ RelP H c u ∧ c.cellOk = true) :
    ∀ (i j : Nat) (row : List AVal) (c : AVal), (A ++ B)[i]? = some row → row[j]? = some c → ∃ u, (xs ++ ys)[i * sz + j]? = some u ∧ RelP H c u ∧ c.cellOk = true := by
  intro i j row c hi hj
  by_cases hlt : i < A.length
  · rw [List.getElem?_append_left hlt] at hi
    obtain ⟨u, e1, e2⟩ := h1 i j row c hi hj
    exact ⟨u, by rw [List.getElem?_append_left (List.getElem?_eq_some_iff.1 e1).1]; exact e1, e2⟩
  · rw [List.getElem?_append_right (by omega)] at hi
    obtain ⟨u, e1, e2⟩ := h2 _ j row c hi hj
    refine ⟨u, ?_, e2⟩
    have : A.length * sz ≤ i * sz := Nat.mul_le_mul_right _ (by omega)
    rw [List.getElem?_append_right (by omega), hxl, ← e1]
    congr 1
    rw [Nat.sub_mul]; omega

/-- A token's slice goes over to a longer one: in its block, or in a new one. -/
theorem Inv.grow (i : Inv G h w) {id n n' sz sz' bb cap' : Nat} {all : List Value} {C' : Array Value} {e' : TypeId} {w' : World} (hid : h[id]? = some (.front n sz)) (hnn : n < n') (hsz : 0 < n → sz' = sz)
    (os : w'.os = w.os) (tape : w'.tape = w.tape) (output : w'.output = w.output) (size : w.heap.size ≤ w'.heap.size)
    (heap : ∀ k, k < w.heap.size → (k = bb → (G.cur id).ownBlock ≠ some k) → (k = bb → False) → w'.heap[k]? = w.heap[k]?)
    (hbb : (w.heap.size ≤ bb) ∨ (G.cur id).ownBlock = some bb)
    (hC : w'.heap[bb]? = some (.cells C' e' (0, 0))) (hcap : n' ≤ cap') (hmax : cap' ≤ maxLen) (hCs : C'.size = cap' * sz')
    (hsz0 : 0 < sz') (hall : all.length = n' * sz') (hC' : ∀ (k : Nat) u, all[k]? = some u → C'[k]? = some u)
    (hold : ∀ k v, G.H bb k = some v → all[k]? = some v) :
    ∃ G', Inv G' (h.set id (.front n' sz')) w' ∧ Ext G h w G' (h.set id (.front n' sz')) w' ∧ (∀ b k v, G.H b k = some v → G'.H b k = some v) ∧
      (∀ (k : Nat) u, all[k]? = some u → G'.H bb k = some u) ∧ G'.cur id = .slice (some ⟨bb, 0, none⟩) n' cap' := by
  let G' : Gh := { G with H := fun b k => if b = bb then all[k]? else G.H b k, cur := fun j => if j = id then .slice (some ⟨bb, 0, none⟩) n' cap' else G.cur j }
  have hmono : ∀ b k v, G.H b k = some v → G'.H b k = some v := by
    intro b k v hv
    show (if b = bb then all[k]? else G.H b k) = some v
    by_cases hb : b = bb
    · subst hb; rw [if_pos rfl]; exact hold k v hv
    · rw [if_neg hb]; exact hv
  have key := i.step (G' := G') id (.front n sz) (.front n' sz') hid os tape output size
    (fun k hk hne => heap k hk (fun _ => hne) (fun e => by
      subst e
      rcases hbb with h1 | h1
      · omega
      · exact hne h1))
    (fun j hj => rfl) (fun j hj => if_neg hj) hmono
    (fun b k hb hne => by
      have : b ≠ bb := by
        rintro rfl
        rcases hbb with h1 | h1
        · omega
        · exact hne h1
      show (if b = bb then all[k]? else G.H b k) = _
      rw [if_neg this])
    (fun b k v hb hv => by
      change (if b = bb then all[k]? else G.H b k) = some v at hv
      by_cases hbe : b = bb
      · subst hbe
        rw [if_pos rfl] at hv
        rw [cell_of w' _ _ hC]; exact hC' k v hv
      · rw [if_neg hbe] at hv
        have hlt := i.H_lt hv
        rw [World.cell?_of_block (w := w) (a := ⟨b, k, none⟩) (heap b hlt (fun e => absurd e hbe) hbe)]
        exact i.ok b k v hv)
    ⟨by omega, fun e => by omega, rfl, hsz⟩
    (fun _ => .inr ⟨bb, cap', C', e', if_pos rfl, hC, hcap, hmax, hCs, hsz0, fun k hk => by
      show (if bb = bb then all[k]? else G.H bb k) = none
      rw [if_pos rfl]; exact List.getElem?_eq_none (by omega)⟩)
    (fun b hb => by
      have hb : Value.ownBlock (if id = id then .slice (some ⟨bb, 0, none⟩) n' cap' else G.cur id) = some b := hb
      rw [if_pos rfl] at hb
      simp only [Value.ownBlock, Option.some.injEq] at hb
      subst hb
      exact hbb)
  exact ⟨G', key.1, key.2, hmono, fun k u hu => by show (if bb = bb then all[k]? else G.H bb k) = some u; rw [if_pos rfl]; exact hu, if_pos rfl⟩

end
end Hk

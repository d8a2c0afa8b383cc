/-
  SLICES THAT GROW: literals, append.
-/
import Derived.Test.YtkeoalhglkfbkaaDoorHkMem4
set_option linter.unusedVariables false
set_option linter.unusedSimpArgs false
namespace Hk
open Go Go.RowKit

section
variable {P : Program} {G : Gh} {h : Heap} {w : World} {x y v : AVal} {X Y V : Value}

/-- The ghost with a new block that is all persistent, and a token for it. -/
def Gh.addRow (G : Gh) (n b : Nat) (C : Array Value) (V : Value) : Gh :=
  { G with H := fun c k => if c = b then C[k]? else G.H c k, cur := fun i => if i = n then V else G.cur i }

theorem Inv.newRow (i : Inv G h w) {len sz : Nat} {cs row : List AVal} {C : Array Value} (e : TypeId) (hc : RelC G h cs C) (hp : pureRow cs = some row) (hl : C.size = len * sz) (hmax : len ≤ maxLen) (hsz0 : 0 < sz) :
    ∃ G', Inv G' (h ++ [.front len sz]) (w.alloc (.cells C e)) ∧ Ext G h w G' (h ++ [.front len sz]) (w.alloc (.cells C e)) ∧
      RelV G' (h ++ [.front len sz]) (.slice (rowsOf len sz row) (.own h.length)) (.slice (some ⟨w.heap.size, 0, none⟩) len len) := by
  obtain ⟨p1, p2⟩ := pureRow_spec hp
  obtain ⟨c1, c2⟩ := hc
  have hHlt : ∀ {b k v}, G.H b k = some v → b ≠ w.heap.size := fun hv => by have := i.H_lt hv; omega
  refine ⟨G.addRow h.length w.heap.size C (.slice (some ⟨w.heap.size, 0, none⟩) len len), ?_⟩
  have hmono : ∀ b k v, G.H b k = some v → (G.addRow h.length w.heap.size C (.slice (some ⟨w.heap.size, 0, none⟩) len len)).H b k = some v := by
    intro b k v hv; simp only [Gh.addRow, if_neg (hHlt hv), hv]
  have key := i.push (G' := G.addRow h.length w.heap.size C (.slice (some ⟨w.heap.size, 0, none⟩) len len)) (ext := [.front len sz]) (w' := w.alloc (.cells C e))
    rfl rfl rfl (by simp) (fun k hk => heap_alloc_lt w _ k hk) (fun id hid => rfl) (fun id hid => by simp only [Gh.addRow]; rw [if_neg (by omega)]) hmono
    (fun b k hb => by simp only [Gh.addRow]; rw [if_neg (by omega)])
    (fun b k v hb hv => by
      by_cases hbe : b = w.heap.size
      · subst hbe
        simp only [Gh.addRow, if_true] at hv
        rw [cell_of _ _ _ (heap_alloc_new w _), hv]
      · simp only [Gh.addRow, if_neg hbe] at hv
        have := i.H_lt hv; omega)
    (fun j bl hj m => by
      cases j with
      | zero =>
        simp at hj; subst hj
        refine .inr ⟨w.heap.size, len, C, e, by simp [Gh.addRow], heap_alloc_new w _, Nat.le_refl _, hmax, hl, hsz0, fun k hk => ?_⟩
        simp only [Gh.addRow, if_true]
        exact Array.getElem?_eq_none (by omega)
      | succ j => simp at hj)
    (fun j bl b hj ho => by
      cases j with
      | zero => simp at hj; subst hj; simp only [ownerB, Gh.addRow, Nat.add_zero, if_true, Value.ownBlock, Option.some.injEq] at ho; omega
      | succ j => simp at hj)
    (fun j j' bl bl' b hj hj' _ _ => by
      have h1 : j < 1 := by simpa using (List.getElem?_eq_some_iff.1 hj).1
      have h2 : j' < 1 := by simpa using (List.getElem?_eq_some_iff.1 hj').1
      omega)
  refine ⟨key.1, key.2, ?_⟩
  have hlen : (rowsOf len sz row).length = len := (rowsOf_spec len sz row (by omega)).1
  refine .own _ h.length len sz _ ?_ (by simp) (by omega) (rowsOf_spec len sz row (by omega)).2.1 (fun _ => by simp [Gh.addRow])
  refine relP_rows (F := fun j => C.getD j undef) (by omega) (Nat.le_refl _) fun j c hj hlt => ?_
  have hjl : j < C.size := by omega
  obtain ⟨c0, hc0⟩ : ∃ c0, cs[j]? = some c0 := ⟨cs[j]'(by omega), List.getElem?_eq_getElem (by omega)⟩
  obtain ⟨c', e1, e2⟩ := p2 j c0 hc0
  rw [hj] at e1; cases e1
  obtain ⟨q1, q2⟩ := pure1_rel e2 (c2 j c0 hc0)
  refine ⟨?_, q1.mono hmono, q2⟩
  simp [Gh.addRow, Array.getD_eq_getD_getElem?, hjl]

theorem relC_replicate {zc : List AVal} {Z : Array Value} (hz : RelC G h zc Z) : ∀ (len : Nat), RelC G h (List.replicate len zc).flatten ((Array.range (len * Z.size)).map fun j => Z[j % Z.size]!) := by
  intro len
  obtain ⟨h1, h2⟩ := hz
  refine ⟨by simp [h1], fun j u hu => ?_⟩
  have hlt : j < len * zc.length := by
    have := (List.getElem?_eq_some_iff.1 hu).1
    simpa using this
  have hpos : 0 < zc.length := by
    rcases Nat.eq_zero_or_pos zc.length with h0 | h0
    · rw [h0] at hlt; omega
    · exact h0
  have hmod : j % zc.length < zc.length := Nat.mod_lt _ hpos
  have hflat : ∀ (n j : Nat), j < n * zc.length → (List.replicate n zc).flatten[j]? = zc[j % zc.length]? := by
    intro n
    induction n with
    | zero => intro j hj; omega
    | succ n ih =>
      intro j hj
      rw [List.replicate_succ, List.flatten_cons]
      by_cases hjl : j < zc.length
      · rw [List.getElem?_append_left hjl, Nat.mod_eq_of_lt hjl]
      · rw [List.getElem?_append_right (by omega), ih (j - zc.length) (by rw [Nat.add_mul] at hj; omega)]
        rw [Nat.mod_eq_sub_mod (a := j) (by omega)]
  rw [hflat len j hlt] at hu
  have := h2 _ u hu
  rw [h1] at hlt hmod this
  have e : ((Array.range (len * Z.size)).map fun j => Z[j % Z.size]!).getD j undef = Z.getD (j % Z.size) undef := by
    simp [Array.getD_eq_getD_getElem?, hlt, hmod]
  rw [e]; exact this

theorem buildRow_sound {t e : TypeId} {len sz : Nat} {z : AVal} {rows : List (List AVal)} {parts : Array (Nat × Operand)} {f : Operand → AVal} {F : Operand → Value}
    (ht : P.underlying t = some (.slice e)) (hz : zeroT P e = some z) (hn : sizeT P e = some sz) (hsz : sz ≠ 0) (hle : len * sz ≤ 16777216) (hf : ∀ o, RelV G h (f o) (F o)) (hzj : z.isJunk = false)
    (hb : abuildRow len sz z.cells (parts.toList.map fun p => (p.1, f p.2)) = some rows) :
    ∃ cs row C, pureRow cs = some row ∧ rows = rowsOf len sz row ∧ RelC G h cs C ∧ C.size = len * sz ∧ len ≤ maxLen ∧
      (Instr.buildSlice t len (parts.map fun (i, x) => (i, F x))).run P w = .ok (.slice (some ⟨w.heap.size, 0, none⟩) len len) (w.alloc (.cells C e)) := by
  unfold abuildRow at hb
  split at hb
  · rename_i cs hbd
    split at hb
    · rename_i row hrow
      split at hb
      case isFalse => cases hb
      rename_i hcond
      obtain ⟨hzl, hall⟩ := hcond
      simp only [Option.some.injEq] at hb
      subst hb
      obtain ⟨Z, hz1, hz2⟩ := run_zeroValue' (P := P) (G := G) (h := h) (w := w) hz
      have hzc := cells_rel hzj hz2
      have hZs : Z.cells.size = sz := by rw [← hzl]; exact hzc.1.symm
      obtain ⟨C, cs', e1, e2, e3⟩ := fill_sound (G := G) (h := h) (fun i => some (i * sz, sz)) ((List.range len).map fun i => (i * sz, sz)) (fun i p hp => by
          simp only [List.getElem?_map, Option.map_eq_some_iff] at hp
          obtain ⟨a, ha, rfl⟩ := hp
          have := (List.getElem?_eq_some_iff.1 ha).2
          simp at this; rw [this]) _ (parts.toList.map fun p => (p.1, F p.2)) _ _ _ (relC_replicate hzc len)
        (by simp) (fun j a b ha hb => by
          simp only [List.getElem?_map, Option.map_eq_some_iff] at ha hb
          obtain ⟨p, hp1, rfl⟩ := ha
          obtain ⟨q, hq1, rfl⟩ := hb
          rw [hp1] at hq1; cases hq1
          exact hf _) hbd
      cases e2
      have hlen : ∀ (places : List (Nat × Nat)) (parts : List (Nat × AVal)) (zc : List AVal) (r : AVal), abuild zc places parts = some r → ∃ cs, r = .agg cs ∧ cs.length = zc.length := by
        intro places parts
        induction parts with
        | nil => intro zc r hr; simp only [abuild, Option.some.injEq] at hr; exact ⟨zc, hr.symm, rfl⟩
        | cons p parts ih =>
          intro zc r hr
          simp only [abuild] at hr
          split at hr
          · split at hr
            case isFalse => cases hr
            rename_i hc
            obtain ⟨cs, e1, e2⟩ := ih _ _ hr
            refine ⟨cs, e1, e2.trans ?_⟩
            exact length_putCells _ _ _ (by obtain ⟨_, h2, h3⟩ := hc; omega)
          · cases hr
      obtain ⟨cs2, e4, e5⟩ := hlen _ _ _ _ hbd
      cases e4
      have hCs : C.size = len * sz := by
        rw [← e3.1, e5]; simp [hzl]
      refine ⟨cs, row, C, hrow, rfl, e3, hCs, by
        have : len ≤ len * sz := Nat.le_mul_of_pos_right _ (by omega)
        simp only [maxLen]; omega, ?_⟩
      have hnle : ¬ (len * sz > 2 ^ 24) := by omega
      rw [hZs] at e1
      by_cases h0 : len * sz = 0
      · have hl0 : len = 0 := by
          rcases Nat.mul_eq_zero.1 h0 with h1 | h1
          · exact h1
          · exact absurd h1 hsz
        subst hl0
        have hE : ∀ g : Nat → Value, Array.map g (Array.range 0) = #[] := fun g => Array.eq_empty_of_size_eq_zero (by simp)
        simp only [Nat.zero_mul, hE] at e1
        simp [Instr.buildSlice, run_underlying ht, run_sizeOf' hn, hE, e1, newRow, Sem.run_pure]
      · simp [Instr.buildSlice, run_underlying ht, run_sizeOf' hn, hnle, h0, hz1, hZs, e1, newRow, Sem.run_pure]
    · cases hb
  · cases hb

theorem abuildSlice_sound {t e : TypeId} {len sz : Nat} {z r : AVal} {h' : Heap} {parts : Array (Nat × Operand)} {f : Operand → AVal} {F : Operand → Value}
    (i : Inv G h w) (ht : P.underlying t = some (.slice e)) (hz : zeroT P e = some z) (hn : sizeT P e = some sz) (hsz : sz ≠ 0) (hle : len * sz ≤ 16777216) (hf : ∀ o, RelV G h (f o) (F o)) (hzj : z.isJunk = false)
    (hb : abuildSlice len sz z.cells (parts.toList.map fun p => (p.1, f p.2)) h = some (r, h')) :
    ∃ V w' G', (Instr.buildSlice t len (parts.map fun (i, x) => (i, F x))).run P w = .ok V w' ∧ Inv G' h' w' ∧ Ext G h w G' h' w' ∧ RelV G' h' r V := by
  unfold abuildSlice at hb
  split at hb
  · rename_i rows hrows
    simp only [Option.some.injEq, Prod.mk.injEq] at hb
    obtain ⟨rfl, rfl⟩ := hb
    obtain ⟨cs, row, C, h1, rfl, h3, h4, h5, h6⟩ := buildRow_sound (G := G) (h := h) (w := w) ht hz hn hsz hle hf hzj hrows
    obtain ⟨G', g1, g2, g3⟩ := i.newRow e h3 h1 h4 h5 (by omega)
    exact ⟨_, _, G', h6, g1, g2, g3⟩
  · cases hb

end
end Hk

/-
  WHAT IS BUILT: structs, arrays, slices of literals.
-/
import Derived.Test.YtkeoalhglkfbkaaDoorHkMem3
set_option linter.unusedVariables false
set_option linter.unusedSimpArgs false
namespace Hk
open Go Go.RowKit

/-- Values set one behind the other from a place on. -/
theorem foldl_put (off : Nat) : ∀ (us : List Value) (k : Nat) (C : Array Value), off + k + us.length ≤ C.size →
    ((us.zipIdx k).foldl (fun (cs : Array Value) p => cs.setIfInBounds (off + p.2) p.1) C) = (C.toList.take (off + k) ++ us ++ C.toList.drop (off + k + us.length)).toArray
  | [], k, C, _ => by simp
  | u :: us, k, C, hl => by
    simp only [List.zipIdx_cons, List.foldl_cons]
    rw [foldl_put off us (k + 1) (C.setIfInBounds (off + k) u) (by simp at hl ⊢; omega)]
    congr 1
    have e := list_seg_step C.toList (off + k) u us (by simp at hl ⊢; omega)
    simpa [Array.toList_setIfInBounds, Nat.add_assoc] using e

section
variable {P : Program} {G : Gh} {h : Heap} {w : World} {x y v : AVal} {X Y V : Value}

theorem cells_rel (hj : x.isJunk = false) (hx : RelV G h x X) : x.cells.length = X.cells.size ∧ ∀ (i : Nat) (u : AVal), x.cells[i]? = some u → RelV G h u (X.cells.getD i undef) := by
  by_cases ha : ∃ cs, x = .agg cs
  · obtain ⟨cs, rfl⟩ := ha
    obtain ⟨C, rfl, hl, hr⟩ := hx.agg_inv
    exact ⟨hl, hr⟩
  · have hc : x.cells = [x] := by cases x <;> simp_all [AVal.cells]
    have hX : X.cells = #[X] := by
      cases hx with
      | p _ _ hp => cases hp <;> simp_all [AVal.isJunk, Value.cells]
      | own _ _ _ _ _ hp => cases hp <;> simp [Value.cells]
      | _ => simp_all [Value.cells]
    rw [hc, hX]
    refine ⟨rfl, fun i u hu => ?_⟩
    cases i with
    | zero => simp at hu; subst hu; simpa using hx
    | succ i => simp at hu

/-- Cells and the model's cells. -/
def RelC (G : Gh) (h : Heap) (cs : List AVal) (C : Array Value) : Prop := cs.length = C.size ∧ ∀ (i : Nat) (u : AVal), cs[i]? = some u → RelV G h u (C.getD i undef)

theorem RelC.put {cs vs : List AVal} {C : Array Value} {U : List Value} {off : Nat} (hc : RelC G h cs C) (hle : off + vs.length ≤ cs.length) (hU : U.length = vs.length)
    (hr : ∀ (j : Nat) (u : AVal), vs[j]? = some u → RelV G h u (U.getD j undef)) : RelC G h (putCells cs off vs) (C.toList.take off ++ U ++ C.toList.drop (off + U.length)).toArray := by
  obtain ⟨h1, h2⟩ := hc
  have hoff : off + U.length ≤ C.size := by omega
  refine ⟨by rw [length_putCells cs vs off hle]; simp; omega, fun j u hu => ?_⟩
  rw [getElem?_putCells cs vs off j hle] at hu
  rw [Array.getD_eq_getD_getElem?, getElem?_putRow C U off j hoff]
  split at hu
  · rename_i hj; rw [if_pos hj]; have := h2 j u hu; rwa [Array.getD_eq_getD_getElem?] at this
  · rename_i hj
    rw [if_neg hj]
    split at hu
    · rename_i hj2; rw [if_pos (by omega)]; have := hr _ u hu; rwa [List.getD_eq_getElem?_getD] at this
    · rename_i hj2; rw [if_neg (by omega)]; have := h2 j u hu; rwa [Array.getD_eq_getD_getElem?] at this

/-- Filling cells. -/
theorem fill_sound (place : Nat → Option (Nat × Nat)) (places : List (Nat × Nat)) (hp : ∀ i p, places[i]? = some p → place i = some p) :
    ∀ (parts : List (Nat × AVal)) (PS : List (Nat × Value)) (zero : List AVal) (Z : Array Value) (r : AVal), RelC G h zero Z →
      (parts.map (·.1) = PS.map (·.1)) → (∀ (j : Nat) a b, parts[j]? = some a → PS[j]? = some b → RelV G h a.2 b.2) → abuild zero places parts = some r →
      ∃ C cs, Instr.fill place Z PS = some C ∧ r = .agg cs ∧ RelC G h cs C
  | [], PS, zero, Z, r, hz, hm, _, hb => by
    have : PS = [] := by simpa using hm.symm
    subst this
    simp only [abuild, Option.some.injEq] at hb; subst hb
    exact ⟨Z, zero, rfl, rfl, hz⟩
  | (i, u) :: rest, [], zero, Z, r, _, hm, _, _ => by simp at hm
  | (i, u) :: rest, (i', U) :: PS, zero, Z, r, hz, hm, hr, hb => by
    simp only [List.map_cons, List.cons.injEq] at hm
    obtain ⟨rfl, hm⟩ := hm
    simp only [abuild] at hb
    split at hb
    · rename_i off n hpl
      split at hb
      case isFalse => cases hb
      rename_i hcond
      obtain ⟨hj, hn, hle⟩ := hcond
      have hU : RelV G h u U := hr 0 (i, u) (i, U) rfl rfl
      obtain ⟨c1, c2⟩ := cells_rel hj hU
      subst hn
      have hpl' := hp i _ hpl
      have hput := hz.put (U := U.cells.toList) hle (by simpa using c1.symm) (fun j a ha => by
        have := c2 j a ha
        rw [List.getD_eq_getElem?_getD, Array.getElem?_toList]
        rwa [Array.getD_eq_getD_getElem?] at this)
      obtain ⟨C, cs, e1, e2, e3⟩ := fill_sound place places hp rest PS _ _ r hput hm (fun j a b ha hb => hr (j + 1) a b (by simpa using ha) (by simpa using hb)) hb
      refine ⟨C, cs, ?_, e2, e3⟩
      have hzl : zero.length = Z.size := hz.1
      have hfold := foldl_put off U.cells.toList 0 Z (by rw [Array.length_toList]; omega)
      simp only [Nat.add_zero] at hfold
      have hsz : U.cells.size = u.cells.length := c1.symm
      simp only [Instr.fill, hpl', hsz, ne_eq, not_true_eq_false, false_or]
      rw [if_neg (by simp; omega)]
      rw [← Array.foldl_toList, Array.toList_zipIdx, hfold]
      exact e1
    · cases hb

theorem abuild_struct {t : TypeId} {fs : Array Field} {z r : AVal} {places : List (Nat × Nat)} {parts : Array (Nat × Operand)} {f : Operand → AVal} {F : Operand → Value}
    (ht : P.underlying t = some (.struct fs)) (hz : zeroT P t = some z) (hp : fs.toList.mapM (fun f => (sizeT P f.type).map fun n => (f.offset, n)) = some places) (hf : ∀ o, RelV G h (f o) (F o))
    (hzj : z.isJunk = false) (hb : abuild z.cells places (parts.toList.map fun p => (p.1, f p.2)) = some r) :
    ∃ V, (Instr.build t (parts.map fun (i, x) => (i, F x))).run P w = .ok V w ∧ RelV G h r V := by
  obtain ⟨Z, hz1, hz2⟩ := run_zeroValue' (P := P) (G := G) (h := h) (w := w) hz
  have hmap : ∀ (l : List Field) (ps : List (Nat × Nat)), l.mapM (fun f => (sizeT P f.type).map fun n => (f.offset, n)) = some ps →
      (l.mapM (fun f => (Prod.mk f.offset <$> Go.sizeOf f.type : Sem (Nat × Nat)))).run P w = .ok ps w := by
    intro l
    induction l with
    | nil => intro ps hps; simp at hps; subst hps; simp [Sem.run_pure]
    | cons f l ih =>
      intro ps hps
      simp only [List.mapM_cons, Option.bind_eq_bind, Option.bind_eq_some_iff] at hps
      obtain ⟨a, ha, bs, hbs, hps⟩ := hps
      cases hs : sizeT P f.type with
      | none => simp [hs] at ha
      | some n =>
        simp [hs] at ha; subst ha
        simp only [Option.pure_def, Option.some.injEq] at hps; subst hps
        simp only [List.mapM_cons, map_eq_pure_bind] at ih ⊢
        simp only [Sem.run_bind, run_sizeOf' hs, Sem.run_pure, Result.andThen_ok, ih bs hbs]
  have hmapA : (fs.mapM (fun f => (Prod.mk f.offset <$> Go.sizeOf f.type : Sem (Nat × Nat)))).run P w = .ok places.toArray w := by
    rw [Array.mapM_eq_mapM_toList]
    have := hmap fs.toList places hp
    simp only [map_eq_pure_bind] at this
    simp only [map_eq_pure_bind, Sem.run_bind, this, Result.andThen_ok, Sem.run_pure]
  obtain ⟨C, cs, e1, rfl, e3⟩ := fill_sound (G := G) (h := h) (fun i => places.toArray[i]?) places (by simp) _ (parts.toList.map fun p => (p.1, F p.2)) z.cells Z.cells r (cells_rel hzj hz2)
    (by simp) (fun j a b ha hb => by
      simp only [List.getElem?_map, Option.map_eq_some_iff] at ha hb
      obtain ⟨p, hp1, rfl⟩ := ha
      obtain ⟨q, hq1, rfl⟩ := hb
      rw [hp1] at hq1; cases hq1
      exact hf _) hb
  refine ⟨.agg C, ?_, .agg _ _ e3.1 e3.2⟩
  simp only [List.getElem?_toArray] at e1
  simp [Instr.build, hz1, run_underlying ht, hmapA, e1, Sem.run_pure]

theorem abuild_array {t e : TypeId} {len n : Nat} {z r : AVal} {parts : Array (Nat × Operand)} {f : Operand → AVal} {F : Operand → Value}
    (ht : P.underlying t = some (.array len e)) (hz : zeroT P t = some z) (hn : sizeT P e = some n) (hf : ∀ o, RelV G h (f o) (F o))
    (hzj : z.isJunk = false) (hb : abuild z.cells ((List.range len).map fun i => (i * n, n)) (parts.toList.map fun p => (p.1, f p.2)) = some r) :
    ∃ V, (Instr.build t (parts.map fun (i, x) => (i, F x))).run P w = .ok V w ∧ RelV G h r V := by
  obtain ⟨Z, hz1, hz2⟩ := run_zeroValue' (P := P) (G := G) (h := h) (w := w) hz
  obtain ⟨C, cs, e1, rfl, e3⟩ := fill_sound (G := G) (h := h) (fun i => some (i * n, n)) ((List.range len).map fun i => (i * n, n)) (fun i p hp => by
      simp only [List.getElem?_map, Option.map_eq_some_iff] at hp
      obtain ⟨a, ha, rfl⟩ := hp
      have := (List.getElem?_eq_some_iff.1 ha).2
      simp at this; rw [this]) _ (parts.toList.map fun p => (p.1, F p.2)) z.cells Z.cells r (cells_rel hzj hz2)
    (by simp) (fun j a b ha hb => by
      simp only [List.getElem?_map, Option.map_eq_some_iff] at ha hb
      obtain ⟨p, hp1, rfl⟩ := ha
      obtain ⟨q, hq1, rfl⟩ := hb
      rw [hp1] at hq1; cases hq1
      exact hf _) hb
  refine ⟨.agg C, ?_, .agg _ _ e3.1 e3.2⟩
  simp [Instr.build, hz1, run_underlying ht, run_sizeOf' hn, e1, Sem.run_pure]

theorem pure1_rel {c c' : AVal} {V : Value} (hp : c.pure1 = some c') (hr : RelV G h c V) : RelP G.H c' V ∧ c'.cellOk = true := by
  unfold AVal.pure1 at hp
  split at hp <;> simp only [Option.some.injEq, reduceCtorEq] at hp <;> subst hp
  all_goals first
    | exact ⟨hr.slice_inv, rfl⟩
    | (refine ⟨?_, rfl⟩; cases hr with | p _ _ h => exact h)
    | (refine ⟨?_, rfl⟩
       cases hr with
       | p _ _ h => exact h
       | func f first cap F C hlf hlc hf hc =>
         have h1 : F = #[] := Array.eq_empty_of_size_eq_zero hlf.symm
         have h2 : C = #[] := Array.eq_empty_of_size_eq_zero hlc.symm
         subst h1; subst h2; exact .func _)

theorem pureRow_spec : ∀ {cs row : List AVal}, pureRow cs = some row → row.length = cs.length ∧ ∀ (j : Nat) (c : AVal), cs[j]? = some c → ∃ c', row[j]? = some c' ∧ c.pure1 = some c'
  | [], row, hp => by simp only [pureRow, Option.some.injEq] at hp; subst hp; simp
  | v :: r, row, hp => by
    simp only [pureRow] at hp
    split at hp <;> simp only [Option.some.injEq, reduceCtorEq] at hp
    rename_i a b ha hb
    subst hp
    obtain ⟨h1, h2⟩ := pureRow_spec hb
    refine ⟨by simp [h1], fun j c hc => ?_⟩
    cases j with
    | zero => simp at hc; subst hc; exact ⟨a, rfl, ha⟩
    | succ j => obtain ⟨c', e1, e2⟩ := h2 j c (by simpa using hc); exact ⟨c', by simpa using e1, e2⟩

theorem rowsOf_spec : ∀ (n sz : Nat) (cs : List AVal), n * sz ≤ cs.length → (rowsOf n sz cs).length = n ∧ (∀ r ∈ rowsOf n sz cs, r.length = sz) ∧
    ∀ (i j : Nat) (row : List AVal) (c : AVal), (rowsOf n sz cs)[i]? = some row → row[j]? = some c → cs[i * sz + j]? = some c
  | 0, sz, cs, _ => by simp [rowsOf]
  | n + 1, sz, cs, hl => by
    have hl' : n * sz ≤ (cs.drop sz).length := by rw [List.length_drop]; rw [Nat.add_mul] at hl; omega
    obtain ⟨h1, h2, h3⟩ := rowsOf_spec n sz (cs.drop sz) hl'
    simp only [rowsOf]
    have hsz : (cs.take sz).length = sz := by rw [List.length_take]; rw [Nat.add_mul] at hl; omega
    refine ⟨by simp [h1], ?_, ?_⟩
    · intro r hr
      rcases List.mem_cons.1 hr with rfl | hr
      · exact hsz
      · exact h2 r hr
    · intro i j row c hi hj
      cases i with
      | zero =>
        simp at hi; subst hi
        rw [List.getElem?_take] at hj
        split at hj
        · simpa using hj
        · cases hj
      | succ i =>
        have := h3 i j row c (by simpa using hi) hj
        rw [List.getElem?_drop] at this
        rw [show (i + 1) * sz + j = sz + (i * sz + j) by rw [Nat.add_mul]; omega]
        exact this

/-- Cells that lie in persistent memory, seen as rows. -/
theorem relP_rows {H : Nat → Nat → Option Value} {n sz b off cap : Nat} {row : List AVal} {F : Nat → Value} (hl : n * sz ≤ row.length) (hc : n ≤ cap)
    (hH : ∀ (j : Nat) (c : AVal), row[j]? = some c → j < n * sz → H b (off + j) = some (F j) ∧ RelP H c (F j) ∧ c.cellOk = true) :
    RelP H (.slice (rowsOf n sz row) .no) (.slice (some ⟨b, off, none⟩) n cap) := by
  obtain ⟨h1, h2, h3⟩ := rowsOf_spec n sz row hl
  have hb : ∀ (i j : Nat) (r : List AVal) (c : AVal), (rowsOf n sz row)[i]? = some r → r[j]? = some c → row[i * sz + j]? = some c ∧ i * sz + j < n * sz := by
    intro i j r c hi hj
    refine ⟨h3 i j r c hi hj, ?_⟩
    have hi' : i < n := by rw [← h1]; exact (List.getElem?_eq_some_iff.1 hi).1
    have hj' : j < sz := by rw [← h2 r (List.mem_of_getElem? hi)]; exact (List.getElem?_eq_some_iff.1 hj).1
    calc i * sz + j < i * sz + sz := by omega
      _ = (i + 1) * sz := by rw [Nat.add_mul]; omega
      _ ≤ n * sz := Nat.mul_le_mul_right _ hi'
  have := RelP.slice (H := H) (rowsOf n sz row) b off cap sz F h2 (by rw [h1]; exact hc)
    (fun i j r c hi hj => by obtain ⟨a1, a2⟩ := hb i j r c hi hj; exact (hH _ c a1 a2).1)
    (fun i j r c hi hj => by obtain ⟨a1, a2⟩ := hb i j r c hi hj; exact (hH _ c a1 a2).2.2)
    (fun i j r c hi hj => by obtain ⟨a1, a2⟩ := hb i j r c hi hj; exact (hH _ c a1 a2).2.1)
  rwa [h1] at this

end
end Hk

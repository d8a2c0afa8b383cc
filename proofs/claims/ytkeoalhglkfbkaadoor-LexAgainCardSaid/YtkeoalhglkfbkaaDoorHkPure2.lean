/-
  MORE OPERATIONS THAT TOUCH NO MEMORY: parts, indexes, pieces, lengths, addresses.
-/
import Derived.Test.YtkeoalhglkfbkaaDoorHkPure
set_option linter.unusedVariables false
set_option linter.unusedSimpArgs false
namespace Hk
open Go Go.RowKit

section
variable {P : Program} {G : Gh} {h : Heap} {w : World} {x y v : AVal} {X Y : Value}

theorem afield_sound {t ft : TypeId} {fs : Array Field} {f : Nat} {fd : Field} {g : Bool} {n : Nat} (ht : P.underlying t = some (.struct fs)) (hf : fs[f]? = some fd)
    (hg : isAggT P fd.type = some g) (hn : sizeT P fd.type = some n) (hb : afield g n fd.offset x = some v) (hx : RelV G h x X) :
    ∃ V, (Instr.field t X f).run P w = .ok V w ∧ RelV G h v V := by
  unfold afield at hb
  split at hb
  · obtain ⟨C, rfl, hl, hr⟩ := hx.agg_inv
    obtain ⟨V, h1, h2⟩ := apart_sound (w := w) hg hn hb hl hr
    exact ⟨V, by simp [Instr.field, run_underlying ht, hf, asAgg, h1, Sem.run_pure], h2⟩
  · cases hb

theorem aindexStr_sound {t : TypeId} (ht : P.underlying t = some .string) (hb : aindexStr x y = some v) (hx : RelV G h x X) (hy : RelV G h y Y) :
    ∃ V, (Instr.index t X Y).run P w = .ok V w ∧ RelV G h v V := by
  unfold aindexStr at hb
  split at hb
  · rename_i s k n
    split at hb
    · rename_i h0
      have := hx.str_inv; subst this
      have := hy.int_inv; subst this
      cases hs : s[n.toNat]? with
      | none => simp [hs] at hb
      | some b =>
        simp [hs] at hb; subst hb
        refine ⟨_, ?_, .p _ _ (.int _ _)⟩
        have hget : (⟨s.toArray⟩ : ByteArray)[n.toNat]? = some b := by
          have hlt : n.toNat < s.length := (List.getElem?_eq_some_iff.1 hs).1
          have hb2 : s[n.toNat] = b := (List.getElem?_eq_some_iff.1 hs).2
          have hsz : n.toNat < (⟨s.toArray⟩ : ByteArray).size := by show n.toNat < s.toArray.size; simpa using hlt
          rw [getElem?_pos (c := (⟨s.toArray⟩ : ByteArray)) (i := n.toNat) hsz]
          rw [← hb2]; rfl
        simp [Instr.index, asIntOf, run_underlying ht, h0, hget, Sem.run_pure]
    · cases hb
  · cases hb

theorem aindexArr_sound {t e : TypeId} {len sz : Nat} {g : Bool} (ht : P.underlying t = some (.array len e)) (hg : isAggT P e = some g) (hn : sizeT P e = some sz)
    (hb : aindexArr g len sz x y = some v) (hx : RelV G h x X) (hy : RelV G h y Y) : ∃ V, (Instr.index t X Y).run P w = .ok V w ∧ RelV G h v V := by
  unfold aindexArr at hb
  split at hb
  · rename_i cs k n
    split at hb
    · rename_i h0
      obtain ⟨C, rfl, hl, hr⟩ := hx.agg_inv
      have := hy.int_inv; subst this
      obtain ⟨V, h1, h2⟩ := apart_sound (w := w) hg hn hb hl hr
      exact ⟨V, by simp [Instr.index, asIntOf, run_underlying ht, h0, run_sizeOf' hn, h1, Sem.run_pure], h2⟩
    · cases hb
  · cases hb

theorem asliceBound {b : Option AVal} {B : Option Value} {dflt y0 n : Nat} {code : BoundsCode} (hb : abound b dflt = some n) (hle : n ≤ y0)
    (hr : ∀ u, b = some u → ∃ U, B = some U ∧ RelV G h u U) (hnone : b = none → B = none) :
    (match B with | some U => Instr.sliceBound U y0 code | none => (pure dflt : Sem Nat)).run P w = .ok n w := by
  unfold abound at hb
  cases b with
  | none => rw [hnone rfl]; simp at hb; subst hb; simp [Sem.run_pure]
  | some u =>
    obtain ⟨U, rfl, hU⟩ := hr u rfl
    cases u <;> simp at hb
    rename_i k m
    obtain ⟨h0, rfl⟩ := hb
    have := hU.int_inv; subst this
    have : (0:Int) ≤ m ∧ m ≤ (y0 : Int) := ⟨h0, by omega⟩
    simp [Instr.sliceBound, asIntOf, this, Sem.run_pure]

theorem run_sliceBounds {isS : Bool} {lo hi : Option AVal} {LO HI : Option Value} {len cap l u : Nat} (hlo : abound lo 0 = some l) (hhi : abound hi len = some u) (hlu : l ≤ u) (hlen : len ≤ cap) (huc : u ≤ cap)
    (hrl : ∀ a, lo = some a → ∃ U, LO = some U ∧ RelV G h a U) (hnl : lo = none → LO = none) (hrh : ∀ a, hi = some a → ∃ U, HI = some U ∧ RelV G h a U) (hnh : hi = none → HI = none) :
    (Instr.sliceBounds isS len cap LO HI none).run P w = .ok (l, u, cap) w := by
  have h1 := asliceBound (P := P) (w := w) (code := if isS then .sliceAcap else .sliceAlen) hhi huc hrh hnh
  have h2 := asliceBound (P := P) (w := w) (code := .sliceB) hlo hlu hrl hnl
  unfold Instr.sliceBounds
  cases HI with
  | none =>
    simp only [Sem.run_pure, Result.ok.injEq, and_true] at h1; subst h1
    cases LO with
    | none => simp only [Sem.run_pure, Result.ok.injEq, and_true] at h2; subst h2; simp [Sem.run_pure]
    | some L => simp only [] at h2; simp [h2, Sem.run_pure]
  | some Hh =>
    simp only [] at h1
    cases LO with
    | none => simp only [Sem.run_pure, Result.ok.injEq, and_true] at h2; subst h2; simp [h1, Sem.run_pure]
    | some L => simp only [] at h2; simp [h1, h2, Sem.run_pure]

theorem optRel {f : Operand → AVal} {F : Operand → Value} (hf : ∀ o, RelV G h (f o) (F o)) (o : Option Operand) :
    (∀ a, o.map f = some a → ∃ U, o.map F = some U ∧ RelV G h a U) ∧ (o.map f = none → o.map F = none) := by
  cases o with
  | none => simp
  | some o => exact ⟨fun a ha => ⟨F o, rfl, by simp at ha; subst ha; exact hf o⟩, by simp⟩

section slices
variable {lo hi : Option AVal} {LO HI : Option Value}
  (hrl : ∀ a, lo = some a → ∃ U, LO = some U ∧ RelV G h a U) (hnl : lo = none → LO = none) (hrh : ∀ a, hi = some a → ∃ U, HI = some U ∧ RelV G h a U) (hnh : hi = none → HI = none)
include hrl hnl hrh hnh

theorem asliceStr_sound {t : TypeId} (ht : P.underlying t = some .string) (hb : asliceStr x lo hi = some v) (hx : RelV G h x X) :
    ∃ V, (Instr.sliceAt t X LO HI none).run P w = .ok V w ∧ RelV G h v V := by
  unfold asliceStr at hb
  split at hb
  · rename_i s
    have := hx.str_inv; subst this
    split at hb
    · rename_i l u hl hu
      split at hb <;> simp only [Option.some.injEq, reduceCtorEq] at hb
      rename_i hlu
      subst hb
      have hsz : (⟨s.toArray⟩ : ByteArray).size = s.length := by show s.toArray.size = _; simp
      have hr := run_sliceBounds (P := P) (w := w) (isS := false) (len := s.length) (cap := s.length) hl hu hlu.1 (Nat.le_refl _) hlu.2 hrl hnl hrh hnh
      refine ⟨.string ((⟨s.toArray⟩ : ByteArray).extract l u), ?_, ?_⟩
      · simp [Instr.sliceAt, run_underlying ht, Instr.slice, hsz, hr, Sem.run_pure]
      · have : (⟨s.toArray⟩ : ByteArray).extract l u = ⟨((s.drop l).take (u - l)).toArray⟩ := by
          apply ByteArray.ext
          simp [ByteArray.data_extract]
        rw [this]; exact .p _ _ (.str _)
    · cases hb
  · cases hb

theorem asliceSl_sound {t e : TypeId} {sz : Nat} (ht : P.underlying t = some (.slice e)) (hn : sizeT P e = some sz) (hb : asliceSl sz x lo hi = some v) (hx : RelV G h x X) :
    ∃ V, (Instr.sliceAt t X LO HI none).run P w = .ok V w ∧ RelV G h v V := by
  unfold asliceSl at hb
  split at hb
  · rename_i rows tok
    have hp := hx.slice_inv
    split at hb
    · rename_i l u hl hu
      split at hb <;> simp only [Option.some.injEq, reduceCtorEq] at hb
      rename_i hlu
      obtain ⟨hlu1, hlu2, hall⟩ := hlu
      subst hb
      cases hp with
      | slice0 a cap =>
        simp only [List.length_nil, Nat.le_zero_eq] at hlu2
        subst hlu2
        have hl0 : l = 0 := by omega
        subst hl0
        have hr := run_sliceBounds (P := P) (w := w) (isS := true) (len := 0) (cap := cap) hl hu hlu1 (Nat.zero_le _) (Nat.zero_le _) hrl hnl hrh hnh
        refine ⟨.slice (if cap = 0 then a else a.map (·.add (0 * sz))) 0 cap, ?_, .p _ _ (by simp only [List.drop_nil, List.take_nil]; exact .slice0 _ _)⟩
        simp [Instr.sliceAt, run_underlying ht, Instr.slice, run_sizeOf' hn, hr, Sem.run_pure]
      | slice rows b off cap sz' V hr0 hc hH hk hV =>
        have hr := run_sliceBounds (P := P) (w := w) (isS := true) (len := rows.length) (cap := cap) hl hu hlu1 hc (by omega) hrl hnl hrh hnh
        refine ⟨.slice (if cap = l then some ⟨b, off, none⟩ else some (Addr.add ⟨b, off, none⟩ (l * sz))) (u - l) (cap - l), ?_, ?_⟩
        · simp [Instr.sliceAt, run_underlying ht, Instr.slice, run_sizeOf' hn, hr, Sem.run_pure]
        · have hlen : ((rows.drop l).take (u - l)).length = u - l := by simp; omega
          by_cases h0 : u - l = 0
          · have : (rows.drop l).take (u - l) = [] := by rw [h0]; simp
            rw [this, h0]; exact .p _ _ (.slice0 _ _)
          · have hcl : ¬ cap = l := by omega
            have hszz : sz' = sz := by
              have hm : rows[l]? = some rows[l] := List.getElem?_eq_getElem (by omega)
              have h1 := hr0 rows[l] (List.mem_of_getElem? hm)
              have h2 := List.all_eq_true.1 hall rows[l] (List.mem_of_getElem? hm)
              simp at h2; omega
            subst hszz
            rw [if_neg hcl]
            have hadd : Addr.add ⟨b, off, none⟩ (l * sz') = ⟨b, off + l * sz', none⟩ := by
              unfold Addr.add; split <;> simp_all
            rw [hadd]
            have hget : ∀ i (row : List AVal), ((rows.drop l).take (u - l))[i]? = some row → rows[l + i]? = some row := by
              intro i row hi
              rw [List.getElem?_take] at hi
              split at hi
              · rwa [List.getElem?_drop] at hi
              · cases hi
            have hmem : ∀ r ∈ (rows.drop l).take (u - l), r.length = sz' := fun r hrm => hr0 r (List.mem_of_mem_drop (List.mem_of_mem_take hrm))
            generalize (rows.drop l).take (u - l) = R at hlen hget hmem
            rw [← hlen]
            refine .p _ _ (.slice R b (off + l * sz') (cap - l) sz' (fun k => V (l * sz' + k)) hmem (by rw [hlen]; omega) ?_ ?_ ?_)
            · intro i j row v h1 h2
              have := hH (l + i) j row v (hget i row h1) h2
              rw [show off + l * sz' + (i * sz' + j) = off + ((l + i) * sz' + j) by rw [Nat.add_mul]; omega, this]
              congr 2; rw [Nat.add_mul]; omega
            · intro i j row v h1 h2; exact hk (l + i) j row v (hget i row h1) h2
            · intro i j row v h1 h2
              have := hV (l + i) j row v (hget i row h1) h2
              rw [show l * sz' + (i * sz' + j) = (l + i) * sz' + j by rw [Nat.add_mul]; omega]; exact this
    · cases hb
  · rename_i id off len sz'
    obtain ⟨a, cap, rfl, hlc, ha⟩ := hx.mslice_inv
    split at hb
    · rename_i l u hl hu
      split at hb <;> simp only [Option.some.injEq, reduceCtorEq] at hb
      rename_i hlu
      obtain ⟨hlu1, hlu2, rfl⟩ := hlu
      subst hb
      have hr := run_sliceBounds (P := P) (w := w) (isS := true) (len := len) (cap := cap) hl hu hlu1 hlc (by omega) hrl hnl hrh hnh
      refine ⟨.slice (if cap = l then a else a.map (·.add (l * sz'))) (u - l) (cap - l), ?_, ?_⟩
      · simp [Instr.sliceAt, run_underlying ht, Instr.slice, run_sizeOf' hn, hr, Sem.run_pure]
      · by_cases h0 : u - l = 0
        · rw [h0]; exact .mslice0 _ _ _ _ _
        · obtain ⟨rfl, hlv⟩ := ha (by omega)
          rw [if_neg (by omega)]
          have hadd : Addr.add ⟨G.blk id, off, none⟩ (l * sz') = ⟨G.blk id, off + l * sz', none⟩ := by
            unfold Addr.add; split <;> simp_all
          simp only [Option.map_some, hadd]
          exact .mslice id _ _ sz' _ hlv (by omega)
    · cases hb
  · cases hb

end slices

theorem alenStr_sound {t : TypeId} {ty : TypeId} (ht : P.underlying t = some .string) (hb : alenStr x = some v) (hx : RelV G h x X) :
    ∃ V, (Builtin.len_ #[t] ty #[X]).run P w = .ok V w ∧ RelV G h v V := by
  unfold alenStr at hb
  split at hb <;> simp only [Option.some.injEq, reduceCtorEq] at hb
  subst hb
  rename_i s
  have := hx.str_inv; subst this
  refine ⟨.int .i64 s.length, ?_, .p _ _ (.int _ _)⟩
  have hsz : (⟨s.toArray⟩ : ByteArray).size = s.length := by show s.toArray.size = _; simp
  simp [Builtin.len_, run_underlying ht, goInt, hsz, Sem.run_pure]

theorem alenSl_sound {t : TypeId} {ty e : TypeId} (ht : P.underlying t = some (.slice e)) (hb : alenSl x = some v) (hx : RelV G h x X) :
    ∃ V, (Builtin.len_ #[t] ty #[X]).run P w = .ok V w ∧ RelV G h v V := by
  unfold alenSl at hb
  split at hb <;> simp only [Option.some.injEq, reduceCtorEq] at hb <;> subst hb
  · rename_i rows tok
    have hp := hx.slice_inv
    refine ⟨.int .i64 rows.length, ?_, .p _ _ (.int _ _)⟩
    cases hp <;> simp [Builtin.len_, run_underlying ht, goInt, Sem.run_pure]
  · rename_i id off len sz
    obtain ⟨a, cap, rfl, _⟩ := hx.mslice_inv
    exact ⟨.int .i64 len, by simp [Builtin.len_, run_underlying ht, goInt, Sem.run_pure], .p _ _ (.int _ _)⟩

theorem amax2_sound (hb : amax2 x y = some v) (hx : RelV G h x X) (hy : RelV G h y Y) : ∃ V, (Builtin.max2 X Y).run P w = .ok V w ∧ RelV G h v V := by
  unfold amax2 at hb
  split at hb <;> simp only [Option.some.injEq, reduceCtorEq] at hb
  subst hb
  have := hx.int_inv; subst this
  have := hy.int_inv; subst this
  exact ⟨_, by simp [Builtin.max2, Sem.run_pure], .p _ _ (.int _ _)⟩
theorem amin2_sound (hb : amin2 x y = some v) (hx : RelV G h x X) (hy : RelV G h y Y) : ∃ V, (Builtin.min2 X Y).run P w = .ok V w ∧ RelV G h v V := by
  unfold amin2 at hb
  split at hb <;> simp only [Option.some.injEq, reduceCtorEq] at hb
  subst hb
  have := hx.int_inv; subst this
  have := hy.int_inv; subst this
  exact ⟨_, by simp [Builtin.min2, Sem.run_pure], .p _ _ (.int _ _)⟩

theorem afieldAt_sound {t : TypeId} {fs : Array Field} {f : Nat} {fd : Field} {n : Nat} (ht : P.underlying t = some (.struct fs)) (hf : fs[f]? = some fd)
    (hn : sizeT P fd.type = some (n + 1)) (hb : afieldAt fd.offset x = some v) (hx : RelV G h x X) :
    ∃ V, (Instr.fieldAt t X f).run P w = .ok V w ∧ RelV G h v V := by
  have run : ∀ b off, (Instr.fieldAt t (.pointer (some ⟨b, off, none⟩)) f).run P w = .ok (.pointer (some (Addr.add ⟨b, off, none⟩ fd.offset))) w := by
    intro b off
    simp [Instr.fieldAt, run_underlying ht, hf, Instr.sureAddr, fieldPlace, run_sizeOf' hn, Sem.run_pure]
  have hadd : ∀ b off, Addr.add ⟨b, off, none⟩ fd.offset = ⟨b, off + fd.offset, none⟩ := by
    intro b off; unfold Addr.add; split <;> simp_all
  unfold afieldAt at hb
  split at hb <;> simp only [Option.some.injEq, reduceCtorEq] at hb <;> subst hb
  · rename_i id o
    obtain ⟨rfl, hl⟩ := hx.ptr_inv
    exact ⟨_, run _ _, by rw [hadd]; exact .ptr _ _ hl⟩
  · rename_i cs
    have hp := hx.pptr_inv
    cases hp with
    | pptr cs b off V hH hk hV =>
      refine ⟨_, run _ _, .p _ _ ?_⟩
      rw [hadd]
      refine .pptr _ b (off + fd.offset) (fun j => V (fd.offset + j)) ?_ ?_ ?_
      · intro j v hj; rw [List.getElem?_drop] at hj; have := hH _ v hj; rw [← this]; congr 1; omega
      · intro j v hj; rw [List.getElem?_drop] at hj; exact hk _ v hj
      · intro j v hj; rw [List.getElem?_drop] at hj; exact hV _ v hj

theorem aindexSl_sound {t e : TypeId} {sz : Nat} (ht : P.underlying t = some (.slice e)) (hn : sizeT P e = some sz) (hb : aindexSl sz x y = some v) (hx : RelV G h x X) (hy : RelV G h y Y) :
    ∃ V, (Instr.indexAt t X Y).run P w = .ok V w ∧ RelV G h v V := by
  have hadd : ∀ b off k, Addr.add ⟨b, off, none⟩ k = ⟨b, off + k, none⟩ := by
    intro b off k; unfold Addr.add; split <;> simp_all
  unfold aindexSl at hb
  split at hb
  · rename_i rows tok k n
    have := hy.int_inv; subst this
    split at hb
    · rename_i h0
      split at hb
      · rename_i row hrow
        split at hb <;> simp only [Option.some.injEq, reduceCtorEq] at hb
        rename_i hlen
        subst hb
        have hp := hx.slice_inv
        have hlt : n.toNat < rows.length := (List.getElem?_eq_some_iff.1 hrow).1
        cases hp with
        | slice0 a cap => simp at hlt
        | slice rows b off cap sz' V hr hc hH hk hV =>
          have : sz' = sz := by rw [← hr row (List.mem_of_getElem? hrow), hlen]
          subst this
          have hcond : (0:Int) ≤ n ∧ n < (rows.length : Int) := ⟨h0, by omega⟩
          refine ⟨.pointer (some (Addr.add ⟨b, off, none⟩ (n.toNat * sz'))), ?_, .p _ _ ?_⟩
          · simp [Instr.indexAt, asIntOf, run_underlying ht, hcond, run_sizeOf' hn, Sem.run_pure]
          · rw [hadd]
            refine .pptr _ b _ (fun j => V (n.toNat * sz' + j)) ?_ ?_ ?_
            · intro j v hj; rw [← hH _ j row v hrow hj]; congr 1; omega
            · intro j v hj; exact hk _ j row v hrow hj
            · intro j v hj; exact hV _ j row v hrow hj
      · cases hb
    · cases hb
  · rename_i id off len sz' k n
    have := hy.int_inv; subst this
    split at hb <;> simp only [Option.some.injEq, reduceCtorEq] at hb
    rename_i hc
    obtain ⟨h0, hlt, rfl⟩ := hc
    subst hb
    obtain ⟨a, cap, rfl, hlc, ha⟩ := hx.mslice_inv
    obtain ⟨rfl, hlv⟩ := ha (by omega)
    refine ⟨.pointer (some (Addr.add ⟨G.blk id, off, none⟩ (n.toNat * sz'))), ?_, ?_⟩
    · simp [Instr.indexAt, asIntOf, run_underlying ht, h0, hlt, run_sizeOf' hn, Sem.run_pure]
    · rw [hadd]; exact .ptr _ _ hlv
  · cases hb

theorem aindexAt_sound {t e : TypeId} {len sz : Nat} (ht : P.underlying t = some (.array len e)) (hn : sizeT P e = some sz) (hb : aindexAt len sz x y = some v) (hx : RelV G h x X) (hy : RelV G h y Y) :
    ∃ V, (Instr.indexAt t X Y).run P w = .ok V w ∧ RelV G h v V := by
  have hadd : ∀ b off k, Addr.add ⟨b, off, none⟩ k = ⟨b, off + k, none⟩ := by
    intro b off k; unfold Addr.add; split <;> simp_all
  unfold aindexAt at hb
  split at hb
  · rename_i id off k n
    have := hy.int_inv; subst this
    split at hb <;> simp only [Option.some.injEq, reduceCtorEq] at hb
    rename_i hc
    subst hb
    obtain ⟨rfl, hl⟩ := hx.ptr_inv
    refine ⟨.pointer (some (Addr.add ⟨G.blk id, off, none⟩ (n.toNat * sz))), ?_, ?_⟩
    · simp [Instr.indexAt, asIntOf, run_underlying ht, Instr.sureAddr, hc, run_sizeOf' hn, Sem.run_pure]
    · rw [hadd]; exact .ptr _ _ hl
  · rename_i cs k n
    have := hy.int_inv; subst this
    split at hb <;> simp only [Option.some.injEq, reduceCtorEq] at hb
    rename_i hc
    subst hb
    have hp := hx.pptr_inv
    cases hp with
    | pptr cs b off V hH hk hV =>
      refine ⟨.pointer (some (Addr.add ⟨b, off, none⟩ (n.toNat * sz))), ?_, .p _ _ ?_⟩
      · simp [Instr.indexAt, asIntOf, run_underlying ht, Instr.sureAddr, hc, run_sizeOf' hn, Sem.run_pure]
      · rw [hadd]
        refine .pptr _ b _ (fun j => V (n.toNat * sz + j)) ?_ ?_ ?_
        · intro j v hj; rw [List.getElem?_drop] at hj; rw [← hH _ v hj]; congr 1; omega
        · intro j v hj; rw [List.getElem?_drop] at hj; exact hk _ v hj
        · intro j v hj; rw [List.getElem?_drop] at hj; exact hV _ v hj
  · cases hb

end
end Hk

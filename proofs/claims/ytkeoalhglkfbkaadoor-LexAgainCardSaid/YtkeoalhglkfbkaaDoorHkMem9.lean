/-
  SLICES THAT ARE MADE, MAPS, BYTES, FUNCTIONS WITHOUT A BODY.
-/
import Derived.Test.YtkeoalhglkfbkaaDoorHkMem8
import Derived.MapKept
import Derived.Laws.MakeOwn
import Derived.Laws.BytesString
import Derived.Lib.Bytealg
set_option linter.unusedVariables false
set_option linter.unusedSimpArgs false
namespace Hk
open Go Go.RowKit

section
variable {P : Program} {G : Gh} {h : Heap} {w : World} {x y v : AVal} {X Y V : Value}

/-- A new block of cells, as they are. -/
theorem Inv.newCells (i : Inv G h w) {cs : List AVal} {C : Array Value} (e : TypeId) (hc : RelC G h cs C) (hk : ∀ u ∈ cs, u.cellOk = true) :
    ∃ G', Inv G' (h ++ [.cells cs]) (w.alloc (.cells C e)) ∧ Ext G h w G' (h ++ [.cells cs]) (w.alloc (.cells C e)) ∧ G'.blk h.length = w.heap.size := by
  obtain ⟨c1, c2⟩ := hc
  refine ⟨{ G with blk := fun j => if j = h.length then w.heap.size else G.blk j }, ?_⟩
  have key := i.push (G' := { G with blk := fun j => if j = h.length then w.heap.size else G.blk j }) (ext := [.cells cs]) (w' := w.alloc (.cells C e))
    rfl rfl rfl (by simp) (fun k hk => heap_alloc_lt w _ k hk) (fun id hid => by show (if id = h.length then _ else _) = _; rw [if_neg (by omega)]) (fun id hid => rfl) (fun _ _ _ hh => hh) (fun _ _ _ => rfl)
    (fun b k v hb hv => by have := i.H_lt (b := b) (k := k) (v := v) hv; omega)
    (fun j bl hj m => by
      cases j with
      | zero =>
        simp at hj; subst hj
        refine ⟨C, e, by simp only [Nat.add_zero, if_true]; exact heap_alloc_new w _, by omega, fun k => by simp only [Nat.add_zero, if_true]; exact i.H_none (Nat.le_refl _), fun j u hu => ?_⟩
        exact ⟨hk u (List.mem_of_getElem? hu), (c2 j u hu).mono m⟩
      | succ j => simp at hj)
    (fun j bl b hj ho => by
      cases j with
      | zero => simp at hj; subst hj; simp only [ownerB, Nat.add_zero, if_true, Option.some.injEq] at ho; omega
      | succ j => simp at hj)
    (fun j j' bl bl' b hj hj' _ _ => by
      have h1 : j < 1 := by simpa using (List.getElem?_eq_some_iff.1 hj).1
      have h2 : j' < 1 := by simpa using (List.getElem?_eq_some_iff.1 hj').1
      omega)
  exact ⟨key.1, key.2, by simp⟩

theorem amakeSlice_sound {t e : TypeId} {sz by_ : Nat} {z r : AVal} {h' : Heap} (i : Inv G h w) (ht : P.underlying t = some (.slice e)) (hn : sizeT P e = some sz) (hby : bytesT P e = some by_) (hz : zeroT P e = some z)
    (hj : z.isJunk = false) (hl : z.cells.length = sz) (hk : z.cells.all AVal.cellOk = true) (hb : amakeSlice sz by_ z.cells x h = some (r, h')) {k k' : IntKind} {n : Int} (hxn : x = .int k n) (hX : X = .int k n) (hY : Y = .int k' n) :
    ∃ V w' G', (Instr.makeSlice t X Y).run P w = .ok V w' ∧ Inv G' h' w' ∧ Ext G h w G' h' w' ∧ RelV G' h' r V := by
  subst hxn; subst hX; subst hY
  simp only [amakeSlice] at hb
  split at hb
  case isFalse => cases hb
  rename_i hcond
  obtain ⟨hn0, hbytes, hmax⟩ := hcond
  simp only [Option.some.injEq, Prod.mk.injEq] at hb
  obtain ⟨rfl, rfl⟩ := hb
  obtain ⟨m, rfl⟩ := Int.eq_ofNat_of_zero_le hn0
  simp only [Int.toNat_natCast] at *
  unfold sizeT at hn; unfold bytesT at hby; unfold zeroT at hz
  cases hi : P.info? e with
  | none => simp [hi] at hn
  | some ti =>
    simp only [hi, Option.map_some, Option.some.injEq, Option.bind_some, Option.map_eq_some_iff] at hn hby hz
    obtain ⟨Z, hZ, hz⟩ := hz
    have hrun := run_make (P := P) w t e ti Z ht hi hZ k k' m m hn0 (Int.le_refl _) (by
      rw [hby]
      have : ((m * by_ : Nat) : Int) ≤ 140737488355328 := by omega
      rw [Int.natCast_mul] at this
      rw [Int.mul_comm]; omega) (by omega)
    have hrz : RelV G h z Z := by rw [← hz]; exact relV_ofConst G h Z
    have hcz := cells_rel hj hrz
    have hrc := relC_replicate (G := G) (h := h) hcz m
    have hmade : madeCells Z.cells ((m : Int).toNat * ti.size) = (Array.range (m * Z.cells.size)).map fun j => Z.cells[j % Z.cells.size]! := by
      rw [hn, ← hl, hcz.1]; simp [madeCells]
    rw [hmade] at hrun
    obtain ⟨G', h1, h2, h3⟩ := i.newCells e hrc (fun u hu => by
      obtain ⟨l, hl1, hl2⟩ := List.mem_flatten.1 hu
      rw [(List.mem_replicate.1 hl1).2] at hl2
      exact List.all_eq_true.1 hk u hl2)
    refine ⟨_, _, G', hrun, h1, h2, ?_⟩
    have := RelV.mslice (G := G') (h := h ++ [.cells (List.replicate m z.cells).flatten]) h.length 0 m sz m ⟨.cells (List.replicate m z.cells).flatten, by simp, by simp⟩ (Nat.le_refl _)
    rw [h3] at this
    simpa using this

/-! ### Maps -/

theorem Inv.newMap (i : Inv G h w) : ∃ G', Inv G' (h ++ [.map []]) (w.alloc (.map #[] 0)) ∧ Ext G h w G' (h ++ [.map []]) (w.alloc (.map #[] 0)) ∧ RelV G' (h ++ [.map []]) (.map h.length) (.map (some w.heap.size)) := by
  refine ⟨{ G with blk := fun j => if j = h.length then w.heap.size else G.blk j }, ?_⟩
  have key := i.push (G' := { G with blk := fun j => if j = h.length then w.heap.size else G.blk j }) (ext := [.map []]) (w' := w.alloc (.map #[] 0))
    rfl rfl rfl (by simp) (fun k hk => heap_alloc_lt w _ k hk) (fun id hid => by show (if id = h.length then _ else _) = _; rw [if_neg (by omega)]) (fun id hid => rfl) (fun _ _ _ hh => hh) (fun _ _ _ => rfl)
    (fun b k v hb hv => by have := i.H_lt (b := b) (k := k) (v := v) hv; omega)
    (fun j bl hj m => by
      cases j with
      | zero =>
        simp at hj; subst hj
        refine ⟨#[], 0, by simp only [Nat.add_zero, if_true]; exact (MapKept.heap_alloc w _).1, rfl, fun k => by simp only [Nat.add_zero, if_true]; exact i.H_none (Nat.le_refl _), by simp⟩
      | succ j => simp at hj)
    (fun j bl b hj ho => by
      cases j with
      | zero => simp at hj; subst hj; simp only [ownerB, Nat.add_zero, if_true, Option.some.injEq] at ho; omega
      | succ j => simp at hj)
    (fun j j' bl bl' b hj hj' _ _ => by
      have h1 : j < 1 := by simpa using (List.getElem?_eq_some_iff.1 hj).1
      have h2 : j' < 1 := by simpa using (List.getElem?_eq_some_iff.1 hj').1
      omega)
  refine ⟨key.1, key.2, ?_⟩
  have := RelV.map (G := { G with blk := fun j => if j = h.length then w.heap.size else G.blk j }) (h := h ++ [.map []]) h.length ⟨.map [], by simp, by simp⟩
  simpa using this

/-- The entries of a map. -/
def RelE (G : Gh) (h : Heap) (es : List (AVal × AVal)) (E : List MapEntry) : Prop :=
  E.length = es.length ∧ ∀ (i : Nat) (kv : AVal × AVal), es[i]? = some kv → ∃ m, E[i]? = some m ∧ akeyOk kv.1 = true ∧ RelP G.H kv.1 m.key ∧ RelV G h kv.2 m.val

theorem isKey_of {H : Nat → Nat → Option Value} {d : TypeDesc} {k : AVal} {K : Value} (hf : akeyFor d k = true) (hr : RelP H k K) : MapKept.IsKey d K := by
  cases d <;> cases k <;> simp [akeyFor] at hf <;> cases hr <;> simp [MapKept.IsKey, hf]

theorem aeq1_spec {H : Nat → Nat → Option Value} {d : TypeDesc} {k k' : AVal} {K K' : Value} {b : Bool} (hf : akeyFor d k = true) (hr : RelP H k K) (hr' : RelP H k' K') (he : aeq1 k k' = some b) :
    Instr.sameNow d K K' = some b ∧ (b = true → K' = K ∧ k' = k) := by
  unfold aeq1 at he
  split at he
  · rename_i i1 a i2 c
    split at he
    · rename_i hii
      subst hii
      cases he
      cases hr; cases hr'
      cases d <;> simp [akeyFor] at hf
      exact ⟨by simp [Instr.sameNow], fun hb => by simp at hb; subst hb; exact ⟨rfl, rfl⟩⟩
    · cases he
  · rename_i a c
    cases he
    cases hr; cases hr'
    cases d <;> simp [akeyFor] at hf
    exact ⟨by simp [Instr.sameNow], fun hb => by simp at hb; subst hb; exact ⟨rfl, rfl⟩⟩
  · rename_i a c
    cases he
    cases hr; cases hr'
    cases d <;> simp [akeyFor] at hf
    have : ((⟨a.toArray⟩ : ByteArray) == ⟨c.toArray⟩) = (a == c) := by
      cases h : (a == c) with
      | true => simp at h; subst h; exact (MapKept.bytes_beq _ _).2 rfl
      | false =>
        cases h2 : ((⟨a.toArray⟩ : ByteArray) == ⟨c.toArray⟩) with
        | false => rfl
        | true =>
          have := (MapKept.bytes_beq _ _).1 h2
          simp at this; subst this; simp at h
    exact ⟨by simp only [Instr.sameNow, this], fun hb => by simp at hb; subst hb; exact ⟨rfl, rfl⟩⟩
  · cases he

theorem afind_spec {d : TypeDesc} {k : AVal} {K : Value} (hf : akeyFor d k = true) (hr : RelP G.H k K) : ∀ (es : List (AVal × AVal)) (E : List MapEntry) (n : Nat) (r : Option AVal), RelE G h es E → afind k es = some r →
    (r = none ∧ Instr.findNow d K E n = some none ∧ ∀ v, aputMap k v es = es ++ [(k, v)]) ∨
    ∃ j m v0, r = some v0 ∧ Instr.findNow d K E n = some (some (n + j, m.val)) ∧ E[j]? = some m ∧ m.key = K ∧ es[j]? = some (k, v0) ∧ RelV G h v0 m.val ∧ ∀ v, aputMap k v es = es.set j (k, v)
  | [], [], n, r, _, hfi => by simp [afind] at hfi; subst hfi; exact .inl ⟨rfl, rfl, fun v => rfl⟩
  | [], _ :: _, _, _, hE, _ => by have := hE.1; simp at this
  | _ :: _, [], _, _, hE, _ => by have := hE.1; simp at this
  | (k', v') :: es, m :: E, n, r, hE, hfi => by
    obtain ⟨m', h1, h2, h3, h4⟩ := hE.2 0 (k', v') rfl
    simp at h1; subst h1
    simp only [afind] at hfi
    cases ha : aeq1 k k' with
    | none => rw [ha] at hfi; cases hfi
    | some b =>
      obtain ⟨s1, s2⟩ := aeq1_spec hf hr h3 ha
      cases b with
      | true =>
        rw [ha] at hfi; simp at hfi; subst hfi
        obtain ⟨e1, e2⟩ := s2 rfl
        subst e2
        exact .inr ⟨0, m, v', rfl, by simp [Instr.findNow, s1], rfl, e1, rfl, h4, fun v => by simp [aputMap, ha]⟩
      | false =>
        rw [ha] at hfi; simp only [] at hfi
        have hE' : RelE G h es E := ⟨by have := hE.1; simpa using this, fun i kv hkv => by simpa using hE.2 (i + 1) kv (by simpa using hkv)⟩
        rcases afind_spec hf hr es E (n + 1) r hE' hfi with ⟨e1, e2, e3⟩ | ⟨j, m', v0, e1, e2, e3, e4, e5, e6, e7⟩
        · exact .inl ⟨e1, by simp [Instr.findNow, s1, e2], fun v => by simp [aputMap, ha, e3]⟩
        · exact .inr ⟨j + 1, m', v0, e1, by simp [Instr.findNow, s1, e2]; omega, by simpa using e3, e4, by simpa using e5, e6, fun v => by simp [aputMap, ha, e7]⟩

theorem alookup_sound {t kt e : TypeId} {d : TypeDesc} {z : AVal} {ok : Bool} (i : Inv G h w) (ht : P.underlying t = some (.map kt e)) (hd : P.underlying kt = some d) (hz : zeroT P e = some z) (hf : akeyFor d y = true)
    (hb : alookup z ok h x y = some v) (hx : RelV G h x X) (hy : RelV G h y Y) : ∃ V, (Instr.lookup t X Y ok).run P w = .ok V w ∧ RelV G h v V := by
  obtain ⟨Z, hz1, hz2⟩ := run_zeroValue' (P := P) (G := G) (h := h) (w := w) hz
  have hyp : RelP G.H y Y := by
    cases d <;> cases y <;> simp [akeyFor] at hf <;> (cases hy with | p _ _ hp => exact hp)
  have hkey := isKey_of hf hyp
  -- what is found is told
  have fin : ∀ (es : List (AVal × AVal)) (E : Array MapEntry), RelE G h es E.toList → (match afind y es with
      | some (some v) => some (bif ok then AVal.tuple [v, .bool true] else v)
      | some none => some (bif ok then AVal.tuple [z, .bool false] else z)
      | none => none) = some v →
      ∃ V, (do
        Instr.checkKey E.isEmpty 10000 kt Y
        let (v, ok') ← match ← Instr.findKey kt Y E.toList with
          | some (_, v) => pure (v, true)
          | none => pure (← zeroValue e, false)
        pure (if ok then Value.tuple #[v, .bool ok'] else v) : Sem Value).run P w = .ok V w ∧ RelV G h v V := by
    intro es E hE hv
    have two : ∀ {a : AVal} {A : Value} (b : Bool), RelV G h a A → RelV G h (bif ok then AVal.tuple [a, .bool b] else a) (if ok then Value.tuple #[A, .bool b] else A) := by
      intro a A b ha
      cases ok with
      | false => exact ha
      | true =>
        refine .tuple _ _ rfl fun j u hu => ?_
        match j with
        | 0 => simp at hu; subst hu; exact ha
        | 1 => simp at hu; subst hu; exact .p _ _ (.bool _)
        | j + 2 => simp at hu
    have hck := MapKept.run_checkKey (P := P) (w := w) hd hkey E.isEmpty 9999
    split at hv
    · rename_i v0 hfi
      cases hv
      rcases afind_spec hf hyp es E.toList 0 _ hE hfi with ⟨e1, _⟩ | ⟨j, m, v1, e1, e2, _, _, _, e6, _⟩
      · cases e1
      · cases e1
        have hfk := MapKept.run_findKey (w := w) hd e2
        exact ⟨_, by simp only [Sem.run_bind, hck, Result.andThen_ok, hfk, Sem.run_pure], two true e6⟩
    · rename_i hfi
      cases hv
      rcases afind_spec hf hyp es E.toList 0 _ hE hfi with ⟨_, e2, _⟩ | ⟨j, m, v1, e1, _⟩
      · have hfk := MapKept.run_findKey (w := w) hd e2
        exact ⟨_, by simp only [Sem.run_bind, hck, Result.andThen_ok, hfk, hz1, Sem.run_pure], two false hz2⟩
      · cases e1
    · cases hv
  unfold alookup getMap at hb
  split at hb
  · rename_i es hes
    split at hes
    · cases hes
      have hX := hx.nilmap_inv
      subst hX
      obtain ⟨V, h1, h2⟩ := fin [] #[] ⟨rfl, by simp⟩ hb
      refine ⟨V, ?_, h2⟩
      rw [← h1]
      simp only [Instr.lookup, Sem.run_bind, run_underlying ht, Result.andThen_ok, Sem.run_pure]
      rfl
    · rename_i id
      split at hes
      · rename_i es' hid
        cases hes
        obtain ⟨hX, _⟩ := hx.map_inv
        subst hX
        obtain ⟨E, clock, g1, g2, g3, g4⟩ := i.blk id _ hid
        obtain ⟨V, h1, h2⟩ := fin _ E ⟨by simpa using g2, fun j kv hkv => by simpa using g4 j kv hkv⟩ hb
        refine ⟨V, ?_, h2⟩
        rw [← h1]
        simp only [Instr.lookup, Sem.run_bind, run_underlying ht, Result.andThen_ok, Sem.run_pure, MapKept.run_getObj_map g1]
        rfl
      · cases hes
    · cases hes
  · cases hb

theorem amapSet_sound {t kt e : TypeId} {d : TypeDesc} {h' : Heap} (i : Inv G h w) (ht : P.underlying t = some (.map kt e)) (hd : P.underlying kt = some d) (hf : akeyFor d y = true)
    (hb : amapSet h x y v = some h') (hx : RelV G h x X) (hy : RelV G h y Y) (hv : RelV G h v V) : ∃ w', (Instr.mapUpdate t X Y V).run P w = .ok () w' ∧ Inv G h' w' ∧ Ext G h w G h' w' := by
  have hyp : RelP G.H y Y := by
    cases d <;> cases y <;> simp [akeyFor] at hf <;> (cases hy with | p _ _ hp => exact hp)
  have hkey := isKey_of hf hyp
  have hyok : akeyOk y = true := by cases d <;> cases y <;> simp [akeyFor] at hf <;> rfl
  unfold amapSet at hb
  split at hb
  · rename_i id
    split at hb
    · rename_i es hid
      obtain ⟨hX, _⟩ := hx.map_inv
      subst hX
      obtain ⟨E, clock, g1, g2, g3, g4⟩ := i.blk id _ hid
      have hE : RelE G h es E.toList := ⟨by simpa using g2, fun j kv hkv => by simpa using g4 j kv hkv⟩
      have hck := MapKept.run_checkKey (P := P) (w := w) hd hkey false 9999
      have hidl : id < h.length := (List.getElem?_eq_some_iff.1 hid).1
      -- the step of the heap, given the new entries
      have step : ∀ (es' : List (AVal × AVal)) (E' : Array MapEntry) (clock' : Nat), E'.size = es'.length →
          (∀ (j : Nat) (kv : AVal × AVal), es'[j]? = some kv → ∃ m, E'[j]? = some m ∧ akeyOk kv.1 = true ∧ RelP G.H kv.1 m.key ∧ RelV G h kv.2 m.val) →
          Inv G (h.set id (.map es')) { w with heap := w.heap.setIfInBounds (G.blk id) (.map E' clock') } ∧ Ext G h w G (h.set id (.map es')) { w with heap := w.heap.setIfInBounds (G.blk id) (.map E' clock') } := by
        intro es' E' clock' hs hr
        obtain ⟨s1, s2⟩ := MapKept.heap_set (w := w) (o' := .map E' clock') g1
        refine i.step id (.map es) (.map es') hid rfl rfl rfl (by simp) (fun k _ hk => s2 k (fun e => hk (by simp [ownerB, e]))) (fun _ _ => rfl) (fun _ _ => rfl) (fun _ _ _ hh => hh) (fun _ _ _ _ => rfl) ?_ rfl ?_ ?_
        · intro b k v hb hv
          rcases hb with hb | hb
          · have := i.H_lt hv; omega
          · simp only [ownerB, Option.some.injEq] at hb
            subst hb
            rw [g3] at hv; cases hv
        · intro m
          exact ⟨E', clock', s1, hs, g3, fun j kv hkv => by
            obtain ⟨mm, a1, a2, a3, a4⟩ := hr j kv hkv
            exact ⟨mm, a1, a2, a3, a4.mono m⟩⟩
        · intro b hb
          exact .inr hb
      split at hb
      · rename_i r hfi
        cases hb
        rcases afind_spec hf hyp es E.toList 0 _ hE hfi with ⟨_, e2, e3⟩ | ⟨j, m, v0, _, e2, e4, e5, e6, e7, e8⟩
        · have hfk := MapKept.run_findKey (w := w) hd e2
          rw [e3]
          refine ⟨_, ?_, step (es ++ [(y, v)]) (E.push { key := Y, val := V, born := clock }) (clock + 1) (by simp [g2]) fun j kv hkv => ?_⟩
          · simp only [Instr.mapUpdate, Sem.run_bind, run_underlying ht, Result.andThen_ok, MapKept.run_getObj_map g1, hck, hfk]
            exact MapKept.run_setObj_map _ g1
          · by_cases hj : j < es.length
            · rw [List.getElem?_append_left hj] at hkv
              obtain ⟨mm, a1, a2⟩ := g4 j kv hkv
              exact ⟨mm, by rw [Array.getElem?_push, if_neg (by omega)]; exact a1, a2⟩
            · rw [List.getElem?_append_right (by omega)] at hkv
              have : j - es.length = 0 := by
                by_cases h0 : j - es.length = 0
                · exact h0
                · rw [List.getElem?_eq_none (by simp; omega)] at hkv; cases hkv
              rw [this] at hkv
              simp at hkv; subst hkv
              have : j = E.size := by omega
              subst this
              exact ⟨{ key := Y, val := V, born := clock }, by simp, hyok, hyp, hv⟩
        · have hfk := MapKept.run_findKey (w := w) hd e2
          rw [e8]
          have hEj : E[j]? = some m := by simpa using e4
          have hsame : Instr.sameBits 10000 m.key Y = true := by
            rw [e5]
            cases d <;> cases y <;> simp [akeyFor] at hf <;> cases hyp <;> simp [Instr.sameBits]
            exact (MapKept.bytes_beq _ _).2 rfl
          refine ⟨_, ?_, step (es.set j (y, v)) (E.modify j fun e => { e with key := Y, val := V }) clock (by simp [g2]) fun l kv hkv => ?_⟩
          · simp only [Instr.mapUpdate, Sem.run_bind, run_underlying ht, Result.andThen_ok, MapKept.run_getObj_map g1, hck, hfk, Nat.zero_add, hEj, Option.map_some, Option.getD_some, Instr.keyThatStays, hsame, if_true, Sem.run_pure]
            exact MapKept.run_setObj_map _ g1
          · rw [List.getElem?_set] at hkv
            rw [Array.getElem?_modify]
            by_cases hjl : j = l
            · subst hjl
              have hlt : j < es.length := (List.getElem?_eq_some_iff.1 e6).1
              simp [hlt] at hkv
              subst hkv
              exact ⟨{ m with key := Y, val := V }, by simp [hEj], hyok, hyp, hv⟩
            · rw [if_neg hjl] at hkv
              rw [if_neg hjl]
              exact g4 l kv hkv
      · cases hb
    · cases hb
  · cases hb

/-! ### Bytes as a string -/

theorem bytesOf_spec : ∀ {rows : List (List AVal)} {bs : List UInt8}, bytesOf rows = some bs → ∃ ns : List Int, rows = ns.map (fun n => [AVal.int .u8 n]) ∧ bs = ns.map fun n => UInt8.ofNat n.toNat
  | [], bs, hb => by simp [bytesOf] at hb; subst hb; exact ⟨[], rfl, rfl⟩
  | row :: r, bs, hb => by
    unfold bytesOf at hb
    split at hb
    · rename_i h0; cases h0
    · rename_i n r' h0
      cases h0
      split at hb
      · rename_i bs' hbs
        cases hb
        obtain ⟨ns, h1, h2⟩ := bytesOf_spec hbs
        exact ⟨n :: ns, by simp [h1], by simp [h2]⟩
      · cases hb
    · cases hb

theorem abytesStr_sound (i : Inv G h w) (hb : abytesStr x = some v) (hx : RelV G h x X) : ∃ V, (Conv.bytesToString X).run P w = .ok V w ∧ RelV G h v V := by
  unfold abytesStr at hb
  split at hb
  · rename_i rows tok
    simp only [Option.map_eq_some_iff] at hb
    obtain ⟨bs, hbs, rfl⟩ := hb
    obtain ⟨ns, rfl, rfl⟩ := bytesOf_spec hbs
    have hrows : arowsS 1 h (.slice (ns.map (fun n => [AVal.int .u8 n])) tok) = some (ns.map (fun n => [AVal.int .u8 n])) := by
      simp [arowsS]
    obtain ⟨a, news, s⟩ := arowsS_sound i hrows hx
    obtain ⟨cap, hX⟩ := s.form
    have hnews : news = ns.map (Value.int .u8) := by
      apply List.ext_getElem?
      intro j
      cases hj : ns[j]? with
      | none =>
        have : ns.length ≤ j := List.getElem?_eq_none_iff.1 hj
        rw [List.getElem?_eq_none (by rw [s.len]; simp; exact this), List.getElem?_eq_none (by simpa using this)]
      | some n =>
        obtain ⟨u, h1, h2, _⟩ := s.rel j 0 [AVal.int .u8 n] (.int .u8 n) (by simp [hj]) rfl
        simp only [Nat.mul_one, Nat.add_zero] at h1
        rw [h1, List.getElem?_map, hj]
        cases h2; rfl
    have hstr : (ns.foldl (fun r n => r.push (UInt8.ofNat n.toNat)) ByteArray.empty) = ⟨(ns.map fun n => UInt8.ofNat n.toNat).toArray⟩ := by
      have : ∀ (ns : List Int) (b : ByteArray), ns.foldl (fun r n => r.push (UInt8.ofNat n.toNat)) b = ⟨(b.data.toList ++ ns.map fun n => UInt8.ofNat n.toNat).toArray⟩ := by
        intro ns
        induction ns with
        | nil => intro b; cases b; simp
        | cons n ns ih => intro b; rw [List.foldl_cons, ih]; cases b; simp [ByteArray.push]
      rw [this]; rfl
    refine ⟨.string ⟨(ns.map fun n => UInt8.ofNat n.toNat).toArray⟩, ?_, .p _ _ (.str _)⟩
    rw [hX]
    cases a with
    | none =>
      have h0 : ns = [] := by
        cases ns with
        | nil => rfl
        | cons n ns =>
          obtain ⟨ad, h1, _⟩ := s.at_ 0 (.int .u8 n) (by rw [hnews]; rfl)
          cases h1
      subst h0
      rfl
    | some ad =>
      have hload : (loadCells ad (ns.map (fun n => [AVal.int .u8 n])).length).run P w = .ok (ns.map (Value.int .u8)).toArray w := by
        have := run_loadCells (P := P) w ad ns.length (fun j => news.getD j undef) (fun j hj => by
          have hjn : news[j]? = some (news.getD j undef) := by
            rw [List.getD_eq_getElem?_getD, List.getElem?_eq_getElem (by rw [hnews]; simpa using hj)]; rfl
          obtain ⟨ad', h1, h2⟩ := s.at_ j _ hjn
          cases h1; exact h2)
        rw [List.length_map, this]
        congr 1
        apply Array.ext'
        simp only [List.toList_toArray] at *
        apply List.ext_getElem?
        intro j
        rw [hnews]
        by_cases hj : j < ns.length
        · simp [hj, List.getD_eq_getElem?_getD]
        · simp [List.getElem?_eq_none (show ns.length ≤ j by omega), hj]
      have := run_bytesToString (P := P) w ad _ cap ns hload
      rw [hstr] at this
      exact this
  · cases hb

/-! ### Functions without a body -/

def ExtOk (P : Program) (A : Ann) : Prop := ∀ f, A.ext f = some .indexByte → ∃ fn, P.funcs[f]? = some fn ∧ (fn.name == "runtime.NumGoroutine") = false ∧ fn.body.isNone = true ∧ Extern.findNext fn = none ∧ Extern.find fn = some Extern.BytealgIndexByte.indexByte

theorem aindexByte_eq (l : List UInt8) (c : UInt8) : aindexByte l c = Lib.indexByte l c := by
  induction l with
  | nil => rfl
  | cons b l ih => simp only [aindexByte, Lib.indexByte, ih]

theorem extC_sound {A : Ann} {f : Nat} {k : ExtK} {args : List AVal} {r : Res × Heap} {Xs : Array Value} (hX : ExtOk P A) (hf : A.ext f = some k) (hb : extC k args h = some r) (hl : args.length = Xs.size)
    (hr : ∀ (i : Nat) (v : AVal), args[i]? = some v → RelV G h v (Xs.getD i undef)) : ∃ v V, r = (.ret v, h) ∧ (callFunc f Xs).run P w = .ok (.value V) w ∧ RelV G h v V := by
  unfold extC at hb
  simp only [Option.map_eq_some_iff] at hb
  obtain ⟨v, hv, rfl⟩ := hb
  cases k with
  | indexByte =>
    unfold extV at hv
    split at hv
    · rename_i s c _
      cases hv
      obtain ⟨fn, e1, e2, e3, e4, e5⟩ := hX f hf
      have h0 := (hr 0 _ rfl).str_inv
      have h1 := (hr 1 _ rfl).int_inv
      have hXs : Xs = #[.string ⟨s.toArray⟩, .int .u8 c] := by
        obtain ⟨l⟩ := Xs
        match l, hl, h0, h1 with
        | [a, b], _, h0, h1 => simp at h0 h1; subst h0; subst h1; rfl
      refine ⟨_, .int .i64 (aindexByte s (UInt8.ofNat c.toNat)), rfl, ?_, .p _ _ (.int _ _)⟩
      rw [run_callFunc_extern e1 e2 e3 e4 e5, hXs, Lib.run_indexByteString, aindexByte_eq]
      rfl
    · cases hv

end
end Hk

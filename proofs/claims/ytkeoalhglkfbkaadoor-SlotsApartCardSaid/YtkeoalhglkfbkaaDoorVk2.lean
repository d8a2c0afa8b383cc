/-
  The texts Vk.Mem9, Vk.Mem10, Vk.Op, Vk.Nat1, Vk.Region, Vk.Region2, Vk.Region3, Vk.Region4, Vk.Trunc, Vk.Code, one behind another. No conditions.
-/
import Derived.Test.YtkeoalhglkfbkaaDoorVk1
import Derived.MapKept
import Derived.Laws.MakeOwn
import Derived.Laws.BytesString
import Derived.Lib.Bytealg
import Derived.Orders
import Derived.LoopN
set_option linter.unusedVariables false
set_option linter.unusedSimpArgs false
set_option linter.all false

namespace Hk
open Go Go.RowKit
section
variable {P : Program} {G : Gh} {h : kT} {w : World} {x y v : kR} {X Y V : Value}
theorem Inv.RH (i : Inv G h w) {cs : List kR} {C : Array Value} (e : TypeId) (hc : Ew G h cs C) (hk : ∀ u ∈ cs, u.mC = true) :
  ∃ G', Inv G' (h ++ [.cells cs]) (w.alloc (.cells C e)) ∧ Ext G h w G' (h ++ [.cells cs]) (w.alloc (.cells C e)) ∧ G'.mX h.length = w.heap.size := by
 obtain ⟨c1, c2⟩ := hc
 refine ⟨{ G with mX := fun j => if j = h.length then w.heap.size else G.mX j }, ?_⟩
 have key := i.push (G' := { G with mX := fun j => if j = h.length then w.heap.size else G.mX j }) (ext := [.cells cs]) (w' := w.alloc (.cells C e))
  rfl rfl rfl (by simp) (fun k hk => nP w _ k hk) (fun id hid => by show (if id = h.length then _ else _) = _; rw [if_neg (by omega)]) (fun id hid => rfl) (fun _ _ _ hh => hh) (fun _ _ _ => rfl)
  (fun b k v hb hv => by have := i.Av (b := b) (k := k) (v := v) hv; omega)
  (fun j bl hj m => by
   cases j with
   | zero =>
    simp at hj; subst hj
    refine ⟨C, e, by simp only [Nat.add_zero, if_true]; exact heap_alloc_new w _, by omega, fun k => by simp only [Nat.add_zero, if_true]; exact i.Dq (Nat.le_refl _), fun j u hu => ?_⟩
    exact ⟨hk u (List.mem_of_getElem? hu), (c2 j u hu).mono m⟩
   | succ j => simp at hj)
  (fun j bl b hj ho => by
   cases j with
   | zero => simp at hj; subst hj; simp only [mT, Nat.add_zero, if_true, Option.some.injEq] at ho; omega
   | succ j => simp at hj)
  (fun j j' bl bl' b hj hj' _ _ => by
   have h1 : j < 1 := by simpa using (List.getElem?_eq_some_iff.1 hj).1
   have h2 : j' < 1 := by simpa using (List.getElem?_eq_some_iff.1 hj').1
   omega)
 exact ⟨key.1, key.2, by simp⟩
theorem Du {t e : TypeId} {sz by_ : Nat} {z r : kR} {h' : kT} (i : Inv G h w) (ht : P.underlying t = some (.slice e)) (hn : nY P e = some sz) (hby : xZ P e = some by_) (hz : qH P e = some z)
  (hj : z.oI = false) (hl : z.cells.length = sz) (hk : z.cells.all kR.mC = true) (hb : pD sz by_ z.cells x h = some (r, h')) {k k' : IntKind} {n : Int} (hxn : x = .int k n) (hX : X = .int k n) (hY : Y = .int k' n) :
  ∃ V w' G', (Instr.makeSlice t X Y).run P w = .ok V w' ∧ Inv G' h' w' ∧ Ext G h w G' h' w' ∧ lM G' h' r V := by
 subst hxn; subst hX; subst hY
 simp only [pD] at hb
 split at hb
 case isFalse => cases hb
 rename_i hcond
 obtain ⟨hn0, hbytes, hmax⟩ := hcond
 simp only [Option.some.injEq, Prod.mk.injEq] at hb
 obtain ⟨rfl, rfl⟩ := hb
 obtain ⟨m, rfl⟩ := Int.eq_ofNat_of_zero_le hn0
 simp only [Int.toNat_natCast] at *
 unfold nY at hn; unfold xZ at hby; unfold qH at hz
 cases hi : P.info? e with
 | none => simp [hi] at hn
 | some ti =>
  simp only [hi, Option.map_some, Option.some.injEq, Option.bind_some, Option.map_eq_some_iff] at hn hby hz
  obtain ⟨Z, hZ, hz⟩ := hz
  have hrun := run_make (P := P) w t e ti Z ht hi hZ k k' m m hn0 (Int.le_refl _) (by
   rw [hby]
   have : ((m * by_ : Nat) : Int) ≤ 140737488355328 := by omega
   rw [Int.natCast_mul] at this
   rw [Int.mul_comm]; omega) (by omega)
  have hrz : lM G h z Z := by rw [← hz]; exact sH G h Z
  have hcz := sE hj hrz
  have hrc := uA (G := G) (h := h) hcz m
  have hmade : madeCells Z.cells ((m : Int).toNat * ti.size) = (Array.range (m * Z.cells.size)).map fun j => Z.cells[j % Z.cells.size]! := by
   rw [hn, ← hl, hcz.1]; simp [madeCells]
  rw [hmade] at hrun
  obtain ⟨G', h1, h2, h3⟩ := i.RH e hrc (fun u hu => by
   obtain ⟨l, hl1, hl2⟩ := List.mem_flatten.1 hu
   rw [(List.mem_replicate.1 hl1).2] at hl2
   exact List.all_eq_true.1 hk u hl2)
  refine ⟨_, _, G', hrun, h1, h2, ?_⟩
  have := lM.mslice (G := G') (h := h ++ [.cells (List.replicate m z.cells).flatten]) h.length 0 m sz m ⟨.cells (List.replicate m z.cells).flatten, by simp, by simp⟩ (Nat.le_refl _)
  rw [h3] at this
  simpa using this
theorem Inv.YS (i : Inv G h w) : ∃ G', Inv G' (h ++ [.map []]) (w.alloc (.map #[] 0)) ∧ Ext G h w G' (h ++ [.map []]) (w.alloc (.map #[] 0)) ∧ lM G' (h ++ [.map []]) (.map h.length) (.map (some w.heap.size)) := by
 refine ⟨{ G with mX := fun j => if j = h.length then w.heap.size else G.mX j }, ?_⟩
 have key := i.push (G' := { G with mX := fun j => if j = h.length then w.heap.size else G.mX j }) (ext := [.map []]) (w' := w.alloc (.map #[] 0))
  rfl rfl rfl (by simp) (fun k hk => nP w _ k hk) (fun id hid => by show (if id = h.length then _ else _) = _; rw [if_neg (by omega)]) (fun id hid => rfl) (fun _ _ _ hh => hh) (fun _ _ _ => rfl)
  (fun b k v hb hv => by have := i.Av (b := b) (k := k) (v := v) hv; omega)
  (fun j bl hj m => by
   cases j with
   | zero =>
    simp at hj; subst hj
    refine ⟨#[], 0, by simp only [Nat.add_zero, if_true]; exact (MapKept.heap_alloc w _).1, rfl, fun k => by simp only [Nat.add_zero, if_true]; exact i.Dq (Nat.le_refl _), by simp, MapKept.stamped_empty 0⟩
   | succ j => simp at hj)
  (fun j bl b hj ho => by
   cases j with
   | zero => simp at hj; subst hj; simp only [mT, Nat.add_zero, if_true, Option.some.injEq] at ho; omega
   | succ j => simp at hj)
  (fun j j' bl bl' b hj hj' _ _ => by
   have h1 : j < 1 := by simpa using (List.getElem?_eq_some_iff.1 hj).1
   have h2 : j' < 1 := by simpa using (List.getElem?_eq_some_iff.1 hj').1
   omega)
 refine ⟨key.1, key.2, ?_⟩
 have := lM.map (G := { G with mX := fun j => if j = h.length then w.heap.size else G.mX j }) (h := h ++ [.map []]) h.length ⟨.map [], by simp, by simp⟩
 simpa using this
def Qn (G : Gh) (h : kT) (es : List (kR × kR)) (E : List MapEntry) : Prop :=
 E.length = es.length ∧ ∀ (i : Nat) (kv : kR × kR), es[i]? = some kv → ∃ m, E[i]? = some m ∧ B7 kv.1 = true ∧ o7 G.H kv.1 m.key ∧ lM G h kv.2 m.val
theorem FX {H : Nat → Nat → Option Value} {d : TypeDesc} {k : kR} {K : Value} (hf : oG d k = true) (hr : o7 H k K) : MapKept.IsKey d K := by
 cases d <;> cases k <;> simp [oG] at hf <;> cases hr <;> simp [MapKept.IsKey, hf]
theorem Om {H : Nat → Nat → Option Value} {d : TypeDesc} {k k' : kR} {K K' : Value} {b : Bool} (hf : oG d k = true) (hr : o7 H k K) (hr' : o7 H k' K') (he : EB k k' = some b) :
  Instr.sameNow d K K' = some b ∧ (b = true → K' = K ∧ k' = k) ∧ (b = false → K' ≠ K) := by
 unfold EB at he
 split at he
 ·rename_i i1 a i2 c
  split at he
  ·rename_i hii
   subst hii
   cases he
   cases hr; cases hr'
   cases d <;> simp [oG] at hf
   exact ⟨by simp [Instr.sameNow], fun hb => by simp at hb; subst hb; exact ⟨rfl, rfl⟩, fun hb => by simp at hb; simpa using fun e => hb e.symm⟩
  ·cases he
 ·rename_i a c
  cases he
  cases hr; cases hr'
  cases d <;> simp [oG] at hf
  exact ⟨by simp [Instr.sameNow], fun hb => by simp at hb; subst hb; exact ⟨rfl, rfl⟩, fun hb => by simp at hb; simpa using fun e => hb e.symm⟩
 ·rename_i a c
  cases he
  cases hr; cases hr'
  cases d <;> simp [oG] at hf
  have : ((⟨a.toArray⟩ : ByteArray) == ⟨c.toArray⟩) = (a == c) := by
   cases h : (a == c) with
   | true => simp at h; subst h; exact (MapKept.bytes_beq _ _).2 rfl
   | false =>
    cases h2 : ((⟨a.toArray⟩ : ByteArray) == ⟨c.toArray⟩) with
    | false => rfl
    | true =>
     have := (MapKept.bytes_beq _ _).1 h2
     simp at this; subst this; simp at h
  exact ⟨by simp only [Instr.sameNow, this], fun hb => by simp at hb; subst hb; exact ⟨rfl, rfl⟩, fun hb => by simp at hb; simpa using fun e => hb e.symm⟩
 ·cases he
theorem wN {d : TypeDesc} {k : kR} {K : Value} (hf : oG d k = true) (hr : o7 G.H k K) : ∀ (es : List (kR × kR)) (E : List MapEntry) (n : Nat) (r : Option kR), Qn G h es E → AB k es = some r →
  (r = none ∧ Instr.findNow d K E n = some none ∧ (∀ v, uX k v es = es ++ [(k, v)]) ∧ (∀ x ∈ E, x.key ≠ K) ∧ uW k es = es) ∨
  ∃ j m v0, r = some v0 ∧ Instr.findNow d K E n = some (some (n + j, m.val)) ∧ E[j]? = some m ∧ m.key = K ∧ es[j]? = some (k, v0) ∧ lM G h v0 m.val ∧ (∀ v, uX k v es = es.set j (k, v)) ∧ uW k es = es.eraseIdx j
 | [], [], n, r, _, hfi => by simp [AB] at hfi; subst hfi; exact .inl ⟨rfl, rfl, fun v => rfl, by simp, rfl⟩
 | [], _ :: _, _, _, hE, _ => by have := hE.1; simp at this
 | _ :: _, [], _, _, hE, _ => by have := hE.1; simp at this
 | (k', v') :: es, m :: E, n, r, hE, hfi => by
  obtain ⟨m', h1, h2, h3, h4⟩ := hE.2 0 (k', v') rfl
  simp at h1; subst h1
  simp only [AB] at hfi
  cases ha : EB k k' with
  | none => rw [ha] at hfi; cases hfi
  | some b =>
   obtain ⟨s1, s2, s3⟩ := Om hf hr h3 ha
   cases b with
   | true =>
    rw [ha] at hfi; simp at hfi; subst hfi
    obtain ⟨e1, e2⟩ := s2 rfl
    subst e2
    exact .inr ⟨0, m, v', rfl, by simp [Instr.findNow, s1], rfl, e1, rfl, h4, fun v => by simp [uX, ha], by simp [uW, ha]⟩
   | false =>
    rw [ha] at hfi; simp only [] at hfi
    have hE' : Qn G h es E := ⟨by have := hE.1; simpa using this, fun i kv hkv => by simpa using hE.2 (i + 1) kv (by simpa using hkv)⟩
    rcases wN hf hr es E (n + 1) r hE' hfi with ⟨e1, e2, e3, e4, e5⟩ | ⟨j, m', v0, e1, e2, e3, e4, e5, e6, e7, e8⟩
    ·exact .inl ⟨e1, by simp [Instr.findNow, s1, e2], fun v => by simp [uX, ha, e3], fun x hx => by
      rcases List.mem_cons.1 hx with rfl | hx
      ·exact s3 rfl
      ·exact e4 x hx, by simp [uW, ha, e5]⟩
    ·exact .inr ⟨j + 1, m', v0, e1, by simp [Instr.findNow, s1, e2]; omega, by simpa using e3, e4, by simpa using e5, e6, fun v => by simp [uX, ha, e7], by simp [uW, ha, e8]⟩
theorem GZ {t kt e : TypeId} {d : TypeDesc} {z : kR} {ok : Bool} (i : Inv G h w) (ht : P.underlying t = some (.map kt e)) (hd : P.underlying kt = some d) (hz : qH P e = some z) (hf : oG d y = true)
  (hb : zG z ok h x y = some v) (hx : lM G h x X) (hy : lM G h y Y) : ∃ V, (Instr.lookup t X Y ok).run P w = .ok V w ∧ lM G h v V := by
 obtain ⟨Z, hz1, hz2⟩ := pU (P := P) (G := G) (h := h) (w := w) hz
 have hyp : o7 G.H y Y := by
  cases d <;> cases y <;> simp [oG] at hf <;> (cases hy with | p _ _ hp => exact hp)
 have hkey := FX hf hyp
 have fin : ∀ (es : List (kR × kR)) (E : Array MapEntry), Qn G h es E.toList → (match AB y es with
   | some (some v) => some (bif ok then kR.tuple [v, .bool true] else v)
   | some none => some (bif ok then kR.tuple [z, .bool false] else z)
   | none => none) = some v →
   ∃ V, (do
    Instr.checkKey E.isEmpty 10000 kt Y
    let (v, ok') ← match ← Instr.findKey kt Y E.toList with
     | some (_, v) => pure (v, true)
     | none => pure (← zeroValue e, false)
    pure (if ok then Value.tuple #[v, .bool ok'] else v) : Sem Value).run P w = .ok V w ∧ lM G h v V := by
  intro es E hE hv
  have two : ∀ {a : kR} {A : Value} (b : Bool), lM G h a A → lM G h (bif ok then kR.tuple [a, .bool b] else a) (if ok then Value.tuple #[A, .bool b] else A) := by
   intro a A b ha
   cases ok with
   | false => exact ha
   | true =>
    refine .tuple _ _ rfl fun j u hu => ?_
    match j with
    | 0 => simp at hu; subst hu; exact ha
    | 1 => simp at hu; subst hu; exact .p _ _ (.bool _)
    | j + 2 => simp at hu
  have hck := MapKept.run_checkKey (P := P) (w := w) hd hkey E.isEmpty 9999
  split at hv
  ·rename_i v0 hfi
   cases hv
   rcases wN hf hyp es E.toList 0 _ hE hfi with ⟨e1, _⟩ | ⟨j, m, v1, e1, e2, _, _, _, e6, _⟩
   ·cases e1
   ·cases e1
    have hfk := MapKept.run_findKey (w := w) hd e2
    exact ⟨_, by simp only [Sem.run_bind, hck, Result.andThen_ok, hfk, Sem.run_pure], two true e6⟩
  ·rename_i hfi
   cases hv
   rcases wN hf hyp es E.toList 0 _ hE hfi with ⟨_, e2, _⟩ | ⟨j, m, v1, e1, _⟩
   ·have hfk := MapKept.run_findKey (w := w) hd e2
    exact ⟨_, by simp only [Sem.run_bind, hck, Result.andThen_ok, hfk, hz1, Sem.run_pure], two false hz2⟩
   ·cases e1
  ·cases hv
 unfold zG AJ at hb
 split at hb
 ·rename_i es hes
  split at hes
  ·cases hes
   have hX := hx.Cq
   subst hX
   obtain ⟨V, h1, h2⟩ := fin [] #[] ⟨rfl, by simp⟩ hb
   refine ⟨V, ?_, h2⟩
   rw [← h1]
   simp only [Instr.lookup, Sem.run_bind, run_underlying ht, Result.andThen_ok, Sem.run_pure]
   rfl
  ·rename_i id
   split at hes
   ·rename_i es' hid
    cases hes
    obtain ⟨hX, _⟩ := hx.Db
    subst hX
    obtain ⟨E, clock, g1, g2, g3, g4, g5⟩ := i.mX id _ hid
    obtain ⟨V, h1, h2⟩ := fin _ E ⟨by simpa using g2, fun j kv hkv => by simpa using g4 j kv hkv⟩ hb
    refine ⟨V, ?_, h2⟩
    rw [← h1]
    simp only [Instr.lookup, Sem.run_bind, run_underlying ht, Result.andThen_ok, Sem.run_pure, MapKept.run_getObj_map g1]
    rfl
   ·cases hes
  ·cases hes
 ·cases hb
theorem Inv.mapStep {id clock clock' : Nat} {es es' : List (kR × kR)} {E E' : Array MapEntry} (i : Inv G h w) (hid : h[id]? = some (.map es)) (g1 : w.heap[G.mX id]? = some (.map E clock)) (g3 : ∀ k, G.H (G.mX id) k = none)
  (hs : E'.size = es'.length) (hr : ∀ (j : Nat) (kv : kR × kR), es'[j]? = some kv → ∃ m, E'[j]? = some m ∧ B7 kv.1 = true ∧ o7 G.H kv.1 m.key ∧ lM G h kv.2 m.val) (hst : MapKept.Stamped E' clock') :
  Inv G (h.set id (.map es')) { w with heap := w.heap.setIfInBounds (G.mX id) (.map E' clock') } ∧ Ext G h w G (h.set id (.map es')) { w with heap := w.heap.setIfInBounds (G.mX id) (.map E' clock') } := by
 obtain ⟨s1, s2⟩ := MapKept.heap_set (w := w) (o' := .map E' clock') g1
 refine i.step id (.map es) (.map es') hid rfl rfl rfl (by simp) (fun k _ hk => s2 k (fun e => hk (by simp [mT, e]))) (fun _ _ => rfl) (fun _ _ => rfl) (fun _ _ _ hh => hh) (fun _ _ _ _ => rfl) ?_ ⟨rfl, rfl⟩ ?_ ?_
 ·intro b k v hb hv
  rcases hb with hb | hb
  ·have := i.Av hv; omega
  ·simp only [mT, Option.some.injEq] at hb
   subst hb
   rw [g3] at hv; cases hv
 ·intro m
  exact ⟨E', clock', s1, hs, g3, fun j kv hkv => by
   obtain ⟨mm, a1, a2, a3, a4⟩ := hr j kv hkv
   exact ⟨mm, a1, a2, a3, a4.mono m⟩, hst⟩
 ·intro b hb
  exact .inr hb
theorem G4 {t kt e : TypeId} {d : TypeDesc} {h' : kT} (i : Inv G h w) (ht : P.underlying t = some (.map kt e)) (hd : P.underlying kt = some d) (hf : oG d y = true)
  (hb : xF h x y v = some h') (hx : lM G h x X) (hy : lM G h y Y) (hv : lM G h v V) : ∃ w', (Instr.mapUpdate t X Y V).run P w = .ok () w' ∧ Inv G h' w' ∧ Ext G h w G h' w' := by
 have hyp : o7 G.H y Y := by
  cases d <;> cases y <;> simp [oG] at hf <;> (cases hy with | p _ _ hp => exact hp)
 have hkey := FX hf hyp
 have hyok : B7 y = true := by cases d <;> cases y <;> simp [oG] at hf <;> rfl
 unfold xF at hb
 split at hb
 ·rename_i id
  split at hb
  ·rename_i es hid
   obtain ⟨hX, _⟩ := hx.Db
   subst hX
   obtain ⟨E, clock, g1, g2, g3, g4, g5⟩ := i.mX id _ hid
   have hE : Qn G h es E.toList := ⟨by simpa using g2, fun j kv hkv => by simpa using g4 j kv hkv⟩
   have hck := MapKept.run_checkKey (P := P) (w := w) hd hkey false 9999
   have hidl : id < h.length := (List.getElem?_eq_some_iff.1 hid).1
   split at hb
   ·rename_i r hfi
    cases hb
    rcases wN hf hyp es E.toList 0 _ hE hfi with ⟨_, e2, e3, e4, _⟩ | ⟨j, m, v0, _, e2, e4, e5, e6, e7, e8, _⟩
    ·have hfk := MapKept.run_findKey (w := w) hd e2
     rw [e3]
     refine ⟨_, ?_, i.mapStep (es' := es ++ [(y, v)]) (E' := E.push { key := Y, val := V, born := clock }) (clock' := clock + 1) hid g1 g3 (by simp [g2]) (fun j kv hkv => ?_) (MapKept.stamped_push g5 e4)⟩
     ·simp only [Instr.mapUpdate, Sem.run_bind, run_underlying ht, Result.andThen_ok, MapKept.run_getObj_map g1, hck, hfk]
      exact MapKept.run_setObj_map _ g1
     ·by_cases hj : j < es.length
      ·rw [List.getElem?_append_left hj] at hkv
       obtain ⟨mm, a1, a2⟩ := g4 j kv hkv
       exact ⟨mm, by rw [Array.getElem?_push, if_neg (by omega)]; exact a1, a2⟩
      ·rw [List.getElem?_append_right (by omega)] at hkv
       have : j - es.length = 0 := by
        by_cases h0 : j - es.length = 0
        ·exact h0
        ·rw [List.getElem?_eq_none (by simp; omega)] at hkv; cases hkv
       rw [this] at hkv
       simp at hkv; subst hkv
       have : j = E.size := by omega
       subst this
       exact ⟨{ key := Y, val := V, born := clock }, by simp, hyok, hyp, hv⟩
    ·have hfk := MapKept.run_findKey (w := w) hd e2
     rw [e8]
     have hEj : E[j]? = some m := by simpa using e4
     have hsame : Instr.sameBits 10000 m.key Y = true := by
      rw [e5]
      cases d <;> cases y <;> simp [oG] at hf <;> cases hyp <;> simp [Instr.sameBits]
      exact (MapKept.bytes_beq _ _).2 rfl
     refine ⟨_, ?_, i.mapStep (es' := es.set j (y, v)) (E' := E.modify j fun e => { e with key := Y, val := V }) (clock' := clock) hid g1 g3 (by simp [g2]) (fun l kv hkv => ?_) (MapKept.stamped_modify g5 j _ (fun _ _ => rfl) fun e _ he => by rw [hEj] at he; cases he; exact e5.symm)⟩
     ·simp only [Instr.mapUpdate, Sem.run_bind, run_underlying ht, Result.andThen_ok, MapKept.run_getObj_map g1, hck, hfk, Nat.zero_add, hEj, Option.map_some, Option.getD_some, Instr.keyThatStays, hsame, if_true, Sem.run_pure]
      exact MapKept.run_setObj_map _ g1
     ·rw [List.getElem?_set] at hkv
      rw [Array.getElem?_modify]
      by_cases hjl : j = l
      ·subst hjl
       have hlt : j < es.length := (List.getElem?_eq_some_iff.1 e6).1
       simp [hlt] at hkv
       subst hkv
       exact ⟨{ m with key := Y, val := V }, by simp [hEj], hyok, hyp, hv⟩
      ·rw [if_neg hjl] at hkv
       rw [if_neg hjl]
       exact g4 l kv hkv
   ·cases hb
  ·cases hb
 ·cases hb
theorem G0 {t kt e ty : TypeId} {d : TypeDesc} {h' : kT} (i : Inv G h w) (ht : P.underlying t = some (.map kt e)) (hd : P.underlying kt = some d) (hf : oG d y = true)
  (hb : Bg h x y = some h') (hx : lM G h x X) (hy : lM G h y Y) {ts : Array TypeId} (hts : ts[0]? = some t) : ∃ w', (Builtin.delete_ ts ty #[X, Y]).run P w = .ok (.tuple #[]) w' ∧ Inv G h' w' ∧ Ext G h w G h' w' := by
 have hyp : o7 G.H y Y := by
  cases d <;> cases y <;> simp [oG] at hf <;> (cases hy with | p _ _ hp => exact hp)
 have hkey := FX hf hyp
 have hck := fun e => MapKept.run_checkKey (P := P) (w := w) hd hkey e 9999
 unfold Bg at hb
 split at hb
 ·-- a nil map
  split at hb
  ·cases hb
   have hX := hx.Cq
   subst hX
   exact ⟨w, by simp [Builtin.delete_, hts, run_underlying ht, hck, Sem.run_pure], i, Ext.refl G _ w⟩
  ·cases hb
 ·rename_i id
  split at hb
  ·rename_i es hid
   split at hb
   case isFalse => cases hb
   rename_i hcond
   cases hb
   obtain ⟨hX, _⟩ := hx.Db
   subst hX
   obtain ⟨E, clock, g1, g2, g3, g4, g5⟩ := i.mX id _ hid
   have hE : Qn G h es E.toList := ⟨by simpa using g2, fun j kv hkv => by simpa using g4 j kv hkv⟩
   obtain ⟨r, hfi⟩ := Option.isSome_iff_exists.1 hcond.2
   rcases wN hf hyp es E.toList 0 _ hE hfi with ⟨_, e2, _, _, e5⟩ | ⟨j, m, v0, _, e2, e4, e5, e6, e7, _, e9⟩
   ·have hfk := MapKept.run_findKey (w := w) hd e2
    rw [e5]
    obtain ⟨s1, s2⟩ := i.mapStep (es' := es) (E' := E) (clock' := clock) hid g1 g3 g2 g4 g5
    exact ⟨_, by simp [Builtin.delete_, hts, run_underlying ht, MapKept.run_getObj_map g1, hck, hfk, MapKept.run_setObj_map _ g1, Sem.run_pure], s1, s2⟩
   ·have hfk := MapKept.run_findKey (w := w) hd e2
    rw [e9]
    have hjl : j < es.length := (List.getElem?_eq_some_iff.1 e6).1
    have hjE : j < E.size := by omega
    have her : (E.eraseIdxIfInBounds j).toList = E.toList.eraseIdx j := by
     rw [Array.eraseIdxIfInBounds, dif_pos hjE]; simp
    obtain ⟨s1, s2⟩ := i.mapStep (es' := es.eraseIdx j) (E' := E.eraseIdxIfInBounds j) (clock' := clock) hid g1 g3
     (by rw [← Array.length_toList, her, List.length_eraseIdx, List.length_eraseIdx]; simp [g2])
     (fun l kv hkv => by
      rw [← Array.getElem?_toList, her, List.getElem?_eraseIdx]
      rw [List.getElem?_eraseIdx] at hkv
      split at hkv
      ·rename_i hl
       rw [if_pos hl, Array.getElem?_toList]; exact g4 l kv hkv
      ·rename_i hl
       rw [if_neg hl, Array.getElem?_toList]; exact g4 (l + 1) kv hkv)
     (MapKept.stamped_erase g5 j)
    exact ⟨_, by simp [Builtin.delete_, hts, run_underlying ht, MapKept.run_getObj_map g1, hck, hfk, MapKept.run_setObj_map _ g1, Sem.run_pure], s1, s2⟩
  ·cases hb
 ·cases hb
theorem zJ : ∀ {rows : List (List kR)} {bs : List UInt8}, bytesOf rows = some bs → ∃ ns : List Int, rows = ns.map (fun n => [kR.int .u8 n]) ∧ bs = ns.map fun n => UInt8.ofNat n.toNat
 | [], bs, hb => by simp [bytesOf] at hb; subst hb; exact ⟨[], rfl, rfl⟩
 | row :: r, bs, hb => by
  unfold bytesOf at hb
  split at hb
  ·rename_i h0; cases h0
  ·rename_i n r' h0
   cases h0
   split at hb
   ·rename_i bs' hbs
    cases hb
    obtain ⟨ns, h1, h2⟩ := zJ hbs
    exact ⟨n :: ns, by simp [h1], by simp [h2]⟩
   ·cases hb
  ·cases hb
theorem Aj {ns : List Int} (hrows : tA 1 h x = some (ns.map (fun n => [kR.int .u8 n]))) (i : Inv G h w) (hx : lM G h x X) : ∃ V, (Conv.bytesToString X).run P w = .ok V w ∧ lM G h (.str (ns.map fun n => UInt8.ofNat n.toNat)) V := by
 obtain ⟨a, news, s⟩ := vX i hrows hx
 obtain ⟨cap, hX⟩ := s.form
 have hnews : news = ns.map (Value.int .u8) := by
  apply List.ext_getElem?
  intro j
  cases hj : ns[j]? with
  | none =>
   have : ns.length ≤ j := List.getElem?_eq_none_iff.1 hj
   rw [List.getElem?_eq_none (by rw [s.len]; simp; exact this), List.getElem?_eq_none (by simpa using this)]
  | some n =>
   obtain ⟨u, h1, h2, _⟩ := s.rel j 0 [kR.int .u8 n] (.int .u8 n) (by simp [hj]) rfl
   simp only [Nat.mul_one, Nat.add_zero] at h1
   rw [h1, List.getElem?_map, hj]
   cases h2; rfl
 have hstr : (ns.foldl (fun r n => r.push (UInt8.ofNat n.toNat)) ByteArray.empty) = ⟨(ns.map fun n => UInt8.ofNat n.toNat).toArray⟩ := by
  have : ∀ (ns : List Int) (b : ByteArray), ns.foldl (fun r n => r.push (UInt8.ofNat n.toNat)) b = ⟨(b.data.toList ++ ns.map fun n => UInt8.ofNat n.toNat).toArray⟩ := by
   intro ns
   induction ns with
   | nil => intro b; cases b; simp
   | cons n ns ih => intro b; rw [List.foldl_cons, ih]; cases b; simp [ByteArray.push]
  rw [this]; rfl
 refine ⟨.string ⟨(ns.map fun n => UInt8.ofNat n.toNat).toArray⟩, ?_, .p _ _ (.str _)⟩
 rw [hX]
 cases a with
 | none =>
  have h0 : ns = [] := by
   cases ns with
   | nil => rfl
   | cons n ns =>
    obtain ⟨ad, h1, _⟩ := s.at_ 0 (.int .u8 n) (by rw [hnews]; rfl)
    cases h1
  subst h0
  rfl
 | some ad =>
  have hload : (loadCells ad (ns.map (fun n => [kR.int .u8 n])).length).run P w = .ok (ns.map (Value.int .u8)).toArray w := by
   have := run_loadCells (P := P) w ad ns.length (fun j => news.getD j undef) (fun j hj => by
    have hjn : news[j]? = some (news.getD j undef) := by
     rw [List.getD_eq_getElem?_getD, List.getElem?_eq_getElem (by rw [hnews]; simpa using hj)]; rfl
    obtain ⟨ad', h1, h2⟩ := s.at_ j _ hjn
    cases h1; exact h2)
   rw [List.length_map, this]
   congr 1
   apply Array.ext'
   simp only [List.toList_toArray] at *
   apply List.ext_getElem?
   intro j
   rw [hnews]
   by_cases hj : j < ns.length
   ·simp [hj, List.getD_eq_getElem?_getD]
   ·simp [List.getElem?_eq_none (show ns.length ≤ j by omega), hj]
  have := run_bytesToString (P := P) w ad _ cap ns hload
  rw [hstr] at this
  exact this
theorem Ez (i : Inv G h w) (hb : uN x = some v) (hx : lM G h x X) : ∃ V, (Conv.bytesToString X).run P w = .ok V w ∧ lM G h v V := by
 unfold uN at hb
 split at hb
 ·rename_i rows tok
  simp only [Option.map_eq_some_iff] at hb
  obtain ⟨bs, hbs, rfl⟩ := hb
  obtain ⟨ns, rfl, rfl⟩ := zJ hbs
  have hrows : tA 1 h (.slice (ns.map (fun n => [kR.int .u8 n])) tok) = some (ns.map (fun n => [kR.int .u8 n])) := by
   simp [tA]
  exact Aj hrows i hx
 ·cases hb
theorem GW (i : Inv G h w) (hb : Be h x = some v) (hx : lM G h x X) : ∃ V, (Conv.bytesToString X).run P w = .ok V w ∧ lM G h v V := by
 unfold Be at hb
 split at hb
 ·split at hb
  ·rename_i rows hrows
   simp only [Option.map_eq_some_iff] at hb
   obtain ⟨bs, hbs, rfl⟩ := hb
   obtain ⟨ns, rfl, rfl⟩ := zJ hbs
   exact Aj hrows i hx
  ·cases hb
 ·exact Ez i hb hx
def LL (w : World) (ns : List Int) (e : Ending) (w' : World) : Prop :=
 Below w.heap.size w w' ∧ ∃ V, e = .returned V ∧ ((ns = [] ∧ ∃ a cap, V = .slice a 0 cap) ∨ ∃ g cap, V = .slice (some ⟨g, 0, none⟩) ns.length cap ∧ ns.length ≤ cap ∧ w.heap.size ≤ g ∧
  ∀ (j : Nat) (n : Int), (ns.mergeSort fun x y => decide (x ≤ y))[j]? = some n → w'.cell? ⟨g, j, none⟩ = some (.int .i64 n))
def E9 (P : Program) (f : Nat) : Prop :=
 (∀ (X : Array Value) (w : World), (callFunc f X).run P w = .ok (.enter f X) w) ∧
 ∀ (w : World) (b : Nat) (E : Array MapEntry) (clock : Nat) (ns : List Int), w.heap[b]? = some (.map E clock) → MapKept.Stamped E clock → E.toList.map (·.key) = ns.map (Value.int .i64) →
  (∀ x ∈ E.toList, ∃ v, x.val = .int .i64 v ∧ (Lit.int .i64 v).wf = true) → (∀ n ∈ ns, (Lit.int .i64 n).wf = true) → ns.length ≤ 1048576 → Calls P f #[.map (some b)] w (LL w ns)
def E8 (P : Program) (f g : Nat) : Prop :=
 (∀ (X : Array Value) (w : World), (callFunc f X).run P w = .ok (.enter f X) w) ∧
 (∀ (a : Option Addr) (cap : Nat) (F C : Array Value) (w : World), Calls P f #[.slice a 0 cap, .func (.func g) F C] w fun e w' => e = .returned (.tuple #[]) ∧ w' = w) ∧
 ∀ (w : World) (mX cap : Nat) (C : Array Value) (e : TypeId) (zs : List Int) (pb po sb so len cp : Nat) (key : Int → Int),
  w.heap[mX]? = some (.cells C e (0, 0)) → zs ≠ [] → zs.length ≤ 1048576 → (∀ (j : Nat) (n : Int), zs[j]? = some n → C[j]? = some (.int .i64 n)) →
  w.cell? ⟨pb, po, none⟩ = some (.slice (some ⟨sb, so, none⟩) len cp) → pb ≠ mX → sb ≠ mX →
  (∀ x ∈ zs, 0 ≤ x ∧ x.toNat < len ∧ w.cell? ⟨sb, so + x.toNat * 2, none⟩ = some (.int .i64 (key x))) →
  Calls P f #[.slice (some ⟨mX, 0, none⟩) zs.length cap, .func (.func g) #[] #[.pointer (some ⟨pb, po, none⟩)]] w fun e w' => e = .returned (.tuple #[]) ∧
   w'.os = w.os ∧ w'.tape = w.tape ∧ w'.output = w.output ∧ ∃ os, w'.heap = (w.setRow mX ((zs.mergeSort (p6 key)).map (Value.int .i64) ++ C.toList.drop zs.length).toArray).heap ++ os
def sR (P : Program) (A : Af) : Prop := (∀ f, A.srt f = true → E9 P f) ∧ (∀ f, A.ext f = some .indexByte → ∃ fn, P.funcs[f]? = some fn ∧ (fn.name == "runtime.NumGoroutine") = false ∧ fn.body.isNone = true ∧ Extern.findNext fn = none ∧ Extern.find fn = some Extern.BytealgIndexByte.indexByte) ∧ ∀ f g, A.srf f = some g → E8 P f g
theorem GX (l : List UInt8) (c : UInt8) : uO l c = Lib.indexByte l c := by
 induction l with
 | nil => rfl
 | cons b l ih => simp only [uO, Lib.indexByte, ih]
theorem Ma {A : Af} {f : Nat} {k : Tg} {args : List kR} {r : n_ × kT} {Xs : Array Value} (hX : sR P A) (hf : A.ext f = some k) (hb : XD k args h = some r) (hl : args.length = Xs.size)
  (hr : ∀ (i : Nat) (v : kR), args[i]? = some v → lM G h v (Xs.getD i undef)) : ∃ v V, r = (.ret v, h) ∧ (callFunc f Xs).run P w = .ok (.value V) w ∧ lM G h v V := by
 unfold XD at hb
 simp only [Option.map_eq_some_iff] at hb
 obtain ⟨v, hv, rfl⟩ := hb
 cases k with
 | indexByte =>
  unfold adB at hv
  split at hv
  ·rename_i s c _
   cases hv
   obtain ⟨fn, e1, e2, e3, e4, e5⟩ := hX.2.1 f hf
   have h0 := (hr 0 _ rfl).wD
   have h1 := (hr 1 _ rfl).pE
   have hXs : Xs = #[.string ⟨s.toArray⟩, .int .u8 c] := by
    obtain ⟨l⟩ := Xs
    match l, hl, h0, h1 with
    | [a, b], _, h0, h1 => simp at h0 h1; subst h0; subst h1; rfl
   refine ⟨_, .int .i64 (uO s (UInt8.ofNat c.toNat)), rfl, ?_, .p _ _ (.int _ _)⟩
   rw [run_callFunc_extern e1 e2 e3 e4 e5, hXs, Lib.run_indexByteString, GX]
   rfl
  ·cases hv
end
end Hk


namespace Hk
open Go Go.RowKit
theorem v7 {sz : Nat} : ∀ (rows : List (List kR)), (∀ r ∈ rows, r.length = sz) → rows.flatten.length = rows.length * sz ∧
  ∀ (k : Nat) (c : kR), rows.flatten[k]? = some c → ∃ (i j : Nat) (row : List kR), rows[i]? = some row ∧ row[j]? = some c ∧ k = i * sz + j
 | [], _ => ⟨by simp, by simp⟩
 | r :: rows, h => by
  obtain ⟨h1, h2⟩ := v7 rows fun x hx => h x (by simp [hx])
  have hr := h r (by simp)
  refine ⟨by simp [h1, hr, Nat.add_mul]; omega, fun k c hk => ?_⟩
  simp only [List.flatten_cons] at hk
  by_cases hlt : k < r.length
  ·rw [List.getElem?_append_left hlt] at hk
   exact ⟨0, k, r, rfl, hk, by omega⟩
  ·rw [List.getElem?_append_right (by omega)] at hk
   obtain ⟨i, j, row, a1, a2, a3⟩ := h2 _ _ hk
   exact ⟨i + 1, j, row, by simpa using a1, a2, by rw [Nat.add_mul]; omega⟩
section
variable {P : Program} {G : Gh} {h : kT} {w : World} {x y v : kR} {X Y V : Value}
theorem Inv.Io (i : Inv G h w) {id tot' sz bb cap' : Nat} {old : lW} {cs' : List kR} {C' : Array Value} {e' : TypeId} {w' : World} (hid : h[id]? = some old)
  (hold : (old = .front 0 0) ∨ ∃ tot sz0 cs, old = .vec tot sz0 cs ∧ tot < tot')
  (os : w'.os = w.os) (tape : w'.tape = w.tape) (output : w'.output = w.output) (size : w.heap.size ≤ w'.heap.size)
  (heap : ∀ k, k < w.heap.size → mT G id old ≠ some k → w'.heap[k]? = w.heap[k]?)
  (hbb : (w.heap.size ≤ bb) ∨ mT G id old = some bb)
  (hC : w'.heap[bb]? = some (.cells C' e' (0, 0))) (hcap : tot' ≤ cap') (hmax : cap' ≤ maxLen) (hCs : C'.size = cap' * sz) (hsz0 : 0 < sz) (hcs : cs'.length = tot' * sz)
  (hrel : ∀ (j : Nat) (u : kR), cs'[j]? = some u → u.mC = true ∧ lM G h u (C'.getD j undef)) :
  ∃ G', Inv G' (h.set id (.vec tot' sz cs')) w' ∧ Ext G h w G' (h.set id (.vec tot' sz cs')) w' ∧ G'.cur id = .slice (some ⟨bb, 0, none⟩) tot' cap' := by
 let G' : Gh := { G with cur := fun j => if j = id then .slice (some ⟨bb, 0, none⟩) tot' cap' else G.cur j }
 have hcur : G'.cur id = .slice (some ⟨bb, 0, none⟩) tot' cap' := if_pos rfl
 have hbl := i.mX id old hid
 have hHn : ∀ k, G.H bb k = none := by
  intro k
  rcases hbb with h1 | h1
  ·exact i.Dq h1
  ·rcases hold with rfl | ⟨tot, sz0, cs, rfl, _⟩
   ·rcases hbl with ⟨_, h2⟩ | ⟨b, cap, C, e, h2, h3, h4, h5, h6, h7, h8⟩
    ·simp [mT, h2, Value.ownBlock] at h1
    ·omega
   ·obtain ⟨b, cap, C, e, g1, g2, g3, g4, g5, g6, g7, g8, g9⟩ := hbl
    simp [mT, g1, Value.ownBlock] at h1
    subst h1; exact g8 k
 have key := i.step (G' := G') id old (.vec tot' sz cs') hid os tape output size heap (fun _ _ => rfl) (fun j hj => if_neg hj) (fun _ _ _ hh => hh) (fun _ _ _ _ => rfl)
  (fun b k v hb hv => by
   have hv : G.H b k = some v := hv
   rcases hb with hb | hb
   ·rw [i.Dq hb] at hv; cases hv
   ·rcases hold with rfl | ⟨tot, sz0, cs, rfl, _⟩
    ·rcases hbl with ⟨_, h2⟩ | ⟨b, cap, C, e, h2, h3, h4, h5, h6, h7, h8⟩
     ·simp [mT, h2, Value.ownBlock] at hb
     ·omega
    ·obtain ⟨b', cap, C, e, g1, g2, g3, g4, g5, g6, g7, g8, g9⟩ := hbl
     simp [mT, g1, Value.ownBlock] at hb
     subst hb; rw [g8] at hv; cases hv)
  (by
   rcases hold with rfl | ⟨tot, sz0, cs, rfl, hlt⟩
   ·exact ⟨rfl, rfl⟩
   ·obtain ⟨b, cap, C, e, g1, _⟩ := hbl
    refine ⟨rfl, ?_, fun e => ?_⟩
    ·rw [hcur, g1]; simp only [vJ]; omega
    ·rw [hcur, g1] at e; simp only [vJ] at e; omega)
  (fun m => ⟨bb, cap', C', e', hcur, hC, hcap, hmax, hCs, hsz0, hcs, hHn, fun j u hu => ⟨(hrel j u hu).1, (hrel j u hu).2.mono m⟩⟩)
  (fun b hb => by
   have hb : (G'.cur id).ownBlock = some b := hb
   rw [hcur] at hb
   simp only [Value.ownBlock, Option.some.injEq] at hb
   subst hb; exact hbb)
 exact ⟨G', key.1, key.2, hcur⟩
structure Kg (G : Gh) (h : kT) (w : World) (sz : Nat) (rows : List (List kR)) (X : Value) (a : Option Addr) (news : List Value) : Prop where
 form : ∃ cap, X = .slice a rows.length cap
 len : news.length = rows.length * sz
 rlen : ∀ r ∈ rows, r.length = sz
 at_ : ∀ (j : Nat) u, news[j]? = some u → ∃ ad, a = some ad ∧ w.cell? (ad.add j) = some u
 rel : ∀ (i j : Nat) (row : List kR) (c : kR), rows[i]? = some row → row[j]? = some c → ∃ u, news[i * sz + j]? = some u ∧ lM G h c u ∧ c.mC = true
theorem Src.toV {sz : Nat} {rows : List (List kR)} {a : Option Addr} {news : List Value} (s : Src G h w sz rows X a news) : Kg G h w sz rows X a news :=
 ⟨s.form, s.len, s.rlen, s.at_, fun i j row c h1 h2 => by obtain ⟨u, e1, e2, e3⟩ := s.rel i j row c h1 h2; exact ⟨u, e1, .p _ _ e2, e3⟩⟩
theorem Kg.one {sz : Nat} {rows : List (List kR)} {a : Option Addr} {news : List Value} (s : Kg G h w sz rows X a news) : ∀ u ∈ news, u.oneCell' = true := by
  intro u hu
  obtain ⟨j, hj⟩ := List.getElem?_of_mem hu
  have hjl : j < rows.length * sz := by rw [← s.len]; exact (List.getElem?_eq_some_iff.1 hj).1
  have hpos : 0 < sz := by rcases Nat.eq_zero_or_pos sz with h0 | h0; · rw [h0] at hjl; omega
                           · exact h0
  have hrow : j / sz < rows.length := (Nat.div_lt_iff_lt_mul hpos).2 hjl
  have h1 : rows[j / sz]? = some rows[j / sz] := List.getElem?_eq_getElem hrow
  have hl := s.rlen _ (List.mem_of_getElem? h1)
  have h2 : rows[j / sz][j % sz]? = some (rows[j / sz][j % sz]'(by rw [hl]; exact Nat.mod_lt _ hpos)) := List.getElem?_eq_getElem _
  obtain ⟨u', e1, e2, e3⟩ := s.rel _ _ _ _ h1 h2
  rw [show j / sz * sz + j % sz = j by rw [Nat.mul_comm]; exact Nat.div_add_mod j sz] at e1
  rw [hj] at e1; cases e1
  exact (e2.zT e3).1
theorem Kg.flat {sz : Nat} {rows : List (List kR)} {a : Option Addr} {news : List Value} (s : Kg G h w sz rows X a news) :
  rows.flatten.length = news.length ∧ ∀ (k : Nat) (c : kR), rows.flatten[k]? = some c → c.mC = true ∧ ∃ u, news[k]? = some u ∧ lM G h c u := by
 obtain ⟨h1, h2⟩ := v7 rows s.rlen
 refine ⟨by rw [h1, s.len], fun k c hk => ?_⟩
 obtain ⟨i, j, row, a1, a2, rfl⟩ := h2 k c hk
 obtain ⟨u, b1, b2, b3⟩ := s.rel i j row c a1 a2
 exact ⟨b3, u, b1, b2⟩
theorem zH {sz : Nat} {rows : List (List kR)} (i : Inv G h w) (hb : wS sz h x = some rows) (hx : lM G h x X) : ∃ a news, Kg G h w sz rows X a news := by
 unfold wS at hb
 split at hb
 ·rename_i r hr
  cases hb
  obtain ⟨a, news, s⟩ := vX i hr hx
  exact ⟨a, news, s.toV⟩
 ·unfold QG at hb
  split at hb
  ·rename_i id tot off len sz' hno
   split at hb
   case h_2 => cases hb
   case h_1 x0 hgb =>
    have hid := qO hgb
    split at hb
    case isFalse => cases hb
    rename_i hcond
    obtain ⟨rfl, hle⟩ := hcond
    simp only [Option.some.injEq] at hb
    subst hb
    obtain ⟨b, cap, rfl, hnf, htot, hlc, hv⟩ := hx.pP
    obtain ⟨b', cap', C, e, g1, g2, g3, g4, g5, g6, g7, g8, g9⟩ := i.mX id _ hid
    obtain ⟨l0, cap0, k1, _⟩ := hv (by rw [g1]; rfl)
    rw [g1] at k1
    simp only [Value.slice.injEq, Option.some.injEq, Addr.mk.injEq] at k1
    obtain ⟨⟨rfl, _⟩, _, rfl⟩ := k1
    have hcl : x0.2.length ≤ C.size := by rw [g7, g5]; exact Nat.mul_le_mul_right _ g3
    have hdl : ((x0.2.drop off).take (len * sz')).length = len * sz' := by rw [List.length_take, List.length_drop]; omega
    obtain ⟨q1, q2, q3⟩ := p7 len sz' _ (by omega : len * sz' ≤ ((x0.2.drop off).take (len * sz')).length)
    refine ⟨some ⟨b', off, none⟩, (C.toList.drop off).take (len * sz'), ⟨cap, by rw [q1]⟩, by rw [q1, List.length_take, List.length_drop, Array.length_toList]; omega, q2, ?_, ?_⟩
    ·intro j u hu
     rw [List.getElem?_take] at hu
     split at hu
     ·refine ⟨_, rfl, ?_⟩
      rw [add_plain, cell_of w _ _ g2]
      rw [List.getElem?_drop, Array.getElem?_toList] at hu
      exact hu
     ·cases hu
    ·intro i' j r c hi hj
     have hrow' := q3 i' j r c hi hj
     have hlt : i' * sz' + j < len * sz' := by
      have := (List.getElem?_eq_some_iff.1 hrow').1; omega
     have hc1 : x0.2[off + (i' * sz' + j)]? = some c := by
      rw [List.getElem?_take, if_pos hlt, List.getElem?_drop] at hrow'; exact hrow'
     obtain ⟨hk, hrel⟩ := g9 _ c hc1
     have hCl : off + (i' * sz' + j) < C.size := by have := (List.getElem?_eq_some_iff.1 hc1).1; omega
     refine ⟨C.getD (off + (i' * sz' + j)) undef, ?_, hrel, hk⟩
     rw [List.getElem?_take, if_pos hlt, List.getElem?_drop, Array.getElem?_toList, Array.getElem?_eq_getElem hCl]
     simp [Array.getD_eq_getD_getElem?, hCl]
  ·cases hb
theorem Src.flat {sz : Nat} {rows : List (List kR)} {a : Option Addr} {news : List Value} (s : Src G h w sz rows X a news) :
  rows.flatten.length = news.length ∧ ∀ (k : Nat) (c : kR), rows.flatten[k]? = some c → c.mC = true ∧ ∃ u, news[k]? = some u ∧ o7 G.H c u := by
 obtain ⟨h1, h2⟩ := v7 rows s.rlen
 refine ⟨by rw [h1, s.len], fun k c hk => ?_⟩
 obtain ⟨i, j, row, a1, a2, rfl⟩ := h2 k c hk
 obtain ⟨u, b1, b2, b3⟩ := s.rel i j row c a1 a2
 exact ⟨b3, u, b1, b2⟩
theorem Ae {G' : Gh} {h' : kT} {id tot n sz bb cap : Nat} {cs : List kR} (hb : h'[id]? = some (.vec tot sz cs)) (hc : G'.cur id = .slice (some ⟨bb, 0, none⟩) tot cap) (hn : n ≤ tot) (ht : tot ≤ cap) :
  lM G' h' (.vslice id tot 0 n sz) (.slice (some ⟨bb, 0, none⟩) n cap) :=
 .vslice id tot 0 n sz bb cap ⟨_, hb, by simp, by simp⟩ (by rw [hc]; exact Nat.le_refl _) (by omega) fun _ => ⟨0, cap, hc, by simp, by omega, by omega⟩
set_option maxHeartbeats 2000000 in
theorem Ff {t ty e : TypeId} {sz bytes : Nat} {z r : kR} {h' : kT} (i : Inv G h w) (ht : P.underlying t = some (.slice e)) (hn : nY P e = some sz) (hby : xZ P e = some bytes)
  (hz : qH P e = some z) (hzj : z.oI = false) (hzl : z.cells.length = sz) (hsz : sz ≠ 0) (hb : mY sz bytes h x y = some (r, h')) (hx : lM G h x X) (hy : lM G h y Y) :
  ∃ V w' G', (Builtin.append_ #[t, t] ty #[X, Y]).run P w = .ok V w' ∧ Inv G' h' w' ∧ Ext G h w G' h' w' ∧ lM G' h' r V := by
 obtain ⟨ti, hti, hts, htb, Z, hzz, hZs⟩ : ∃ ti, P.info? e = some ti ∧ ti.size = sz ∧ ti.bytes = bytes ∧ ∃ Z, ti.zero = some Z ∧ Z.cells.size = sz := by
  unfold nY at hn; unfold xZ at hby; unfold qH at hz
  cases hi : P.info? e with
  | none => simp [hi] at hn
  | some ti =>
   simp [hi] at hn hby hz
   obtain ⟨Z, hZ1, hZ2⟩ := hz
   refine ⟨ti, rfl, hn, hby, Z, hZ1, ?_⟩
   subst hZ2
   rw [← hzl]; exact (sE hzj (sH G h Z)).1.symm
 have fromNil : ∀ {G : Gh} {h : kT} {id : Nat} {new : List (List kR)} {a : Option Addr} {news : List Value} {capY : Nat}, Inv G h w → h[id]? = some (.front 0 0) → Kg G h w sz new Y a news → Y = .slice a new.length capY → new.length ≠ 0 →
   new.length * bytes ≤ 140737488355328 → new.length ≤ 140737488355328 →
   ∃ V w' G', (Builtin.append_ #[t, t] ty #[.slice none 0 0, Y]).run P w = .ok V w' ∧ Inv G' (h.set id (.vec new.length sz new.flatten)) w' ∧ Ext G h w G' (h.set id (.vec new.length sz new.flatten)) w' ∧
    lM G' (h.set id (.vec new.length sz new.flatten)) (.vslice id new.length 0 new.length sz) V := by
  intro G h id new a news capY i hid src hYf hm hbytes hsmall
  have hposn : 0 < news.length := by rw [src.len]; exact Nat.mul_pos (by omega) (by omega)
  obtain ⟨ad, had, _⟩ := src.at_ 0 _ (List.getElem?_eq_getElem hposn)
  subst had
  have hnews : ∀ j u, news[j]? = some u → w.cell? (ad.add j) = some u := fun j u hu => by
   obtain ⟨ad', e1, e2⟩ := src.at_ j u hu; cases e1; exact e2
  have hnl : news.length = new.length * ti.size := by rw [hts]; exact src.len
  have hrun := run_append_nil (P := P) w t ty e ti Z ht hti hzz ad new.length capY news hnl hnews (by omega) (by omega) (by rw [htb]; omega)
  have hcapg := grownCap_ge w new.length 0 e
  have hcapm := grownCap_le_maxLen w new.length 0 e (by simp only [maxLen]; omega)
  obtain ⟨f1, f2⟩ := src.flat
  obtain ⟨G', g1, g2, g3⟩ := i.Io (id := id) (tot' := new.length) (sz := sz) (bb := w.heap.size) (cap' := grownCap w new.length 0 e) (cs' := new.flatten)
   (w' := w.drew.alloc (.cells (news.toArray ++ Builtin.zeroCells Z.cells (grownCap w new.length 0 e - new.length)) e)) hid (.inl rfl) rfl rfl rfl (by simp)
   (fun k hk _ => nP w.drew _ k hk) (.inl (Nat.le_refl _)) (heap_alloc_new w.drew _) (by omega) hcapm
   (by simp only [Array.size_append, List.size_toArray, size_zeroCells, hZs, src.len, ← Nat.add_mul]; congr 1; omega)
   (by omega) (by rw [f1, src.len]) (fun j u hu => by
    obtain ⟨c1, u', c2, c3⟩ := f2 j u hu
    refine ⟨c1, ?_⟩
    rw [Array.getD_eq_getD_getElem?, Array.getElem?_append_left (by simpa using (List.getElem?_eq_some_iff.1 c2).1), List.getElem?_toArray, c2]
    exact c3)
  rw [hYf]
  refine ⟨_, _, G', hrun, g1, g2, Ae (cs := new.flatten) ?_ g3 (Nat.le_refl _) hcapg⟩
  simp [(List.getElem?_eq_some_iff.1 hid).1]
 unfold mY at hb
 split at hb
 ·-- a token that nobody has used
  rename_i id new hnew
  obtain ⟨a, news, src⟩ := zH i hnew hy
  obtain ⟨capY, hYf⟩ := src.form
  split at hb
  ·rename_i hid
   split at hb
   case isFalse => cases hb
   rename_i hcond
   obtain ⟨hbytes, hsmall⟩ := hcond
   obtain ⟨hX, _, hcur⟩ := HX i hx hid rfl
   have hc : G.cur id = .slice none 0 0 := by
    rcases hcur with ⟨_, hc⟩ | ⟨b, cap, C, e0, hc, _, _, _, _, hs0, _⟩
    ·exact hc
    ·omega
   rw [hX, hc]
   split at hb
   ·rename_i hm
    simp only [Option.some.injEq, Prod.mk.injEq] at hb
    obtain ⟨rfl, rfl⟩ := hb
    refine ⟨.slice none 0 0, w, G, ?_, i, Ext.refl G h w, by rw [hX, hc] at hx; exact hx⟩
    rw [hYf, hm]
    exact qN ht hti none a 0 0 capY (Nat.le_refl _)
   ·rename_i hm
    simp only [Option.some.injEq, Prod.mk.injEq] at hb
    obtain ⟨rfl, rfl⟩ := hb
    exact fromNil i hid src hYf hm hbytes hsmall
  ·cases hb
 ·-- a nil slice
  rename_i new hnew
  obtain ⟨a, news, src⟩ := zH i hnew hy
  obtain ⟨capY, hYf⟩ := src.form
  have hX := hx.Jy
  rw [hX]
  split at hb
  ·rename_i hm
   simp only [Option.some.injEq, Prod.mk.injEq] at hb
   obtain ⟨rfl, rfl⟩ := hb
   refine ⟨.slice none 0 0, w, G, ?_, i, Ext.refl G h w, by rw [hX] at hx; exact hx⟩
   rw [hYf, hm]
   exact qN ht hti none a 0 0 capY (Nat.le_refl _)
  ·rename_i hm
   split at hb
   case isFalse => cases hb
   rename_i hcond
   obtain ⟨hbytes, hsmall⟩ := hcond
   simp only [Option.some.injEq, Prod.mk.injEq] at hb
   obtain ⟨rfl, rfl⟩ := hb
   obtain ⟨G1, i1, x1, hc1, hH1⟩ := i.Bv
   have src1 : Kg G1 (h ++ [.front 0 0]) w sz new Y a news := ⟨src.form, src.len, src.rlen, src.at_, fun i j row c h1 h2 => by
    obtain ⟨u, e1, e2, e3⟩ := src.rel i j row c h1 h2; exact ⟨u, e1, e2.mono x1.toMono, e3⟩⟩
   obtain ⟨V, w', G', k1, k2, k3, k4⟩ := fromNil (id := h.length) i1 (by simp) src1 hYf hm hbytes hsmall
   have hset : (h ++ [lW.front 0 0]).set h.length (.vec new.length sz new.flatten) = h ++ [.vec new.length sz new.flatten] := by simp
   rw [hset] at k2 k3 k4
   exact ⟨V, w', G', k1, k2, x1.trans k3, k4⟩
 ·-- a slice that is written into
  rename_i id tot n sz' new hnew
  obtain ⟨a, news, src⟩ := zH i hnew hy
  obtain ⟨capY, hYf⟩ := src.form
  split at hb
  ·rename_i x0 hgv
   have hid := qO hgv
   split at hb
   case isFalse => cases hb
   rename_i hcond
   obtain ⟨rfl, hx1, hbytes, hsmall⟩ := hcond
   obtain ⟨b, cap, rfl, hnf, htot, hlc, hv⟩ := hx.pP
   obtain ⟨b', cap', C, e0, g1, g2, g3, g4, g5, g6, g7, g8, g9⟩ := i.mX id _ hid
   obtain ⟨l0, cap0, k1, k2, k3, k4⟩ := hv (by rw [g1]; rfl)
   have hcur := g1
   rw [g1] at k1
   simp only [Value.slice.injEq, Option.some.injEq, Addr.mk.injEq] at k1
   obtain ⟨⟨rfl, _⟩, _, rfl⟩ := k1
   obtain ⟨szb, cs⟩ := x0
   simp only at hx1 hid g5 g6 g7 g9 hb
   subst hx1
   have hl0 : l0 = 0 := by
    rcases Nat.eq_zero_or_pos l0 with h0 | h0
    ·exact h0
    ·have := Nat.mul_pos h0 g6; omega
   subst hl0
   simp only [Nat.sub_zero] at k4
   subst k4
   rw [hYf]
   split at hb
   ·rename_i hm
    simp only [Option.some.injEq, Prod.mk.injEq] at hb
    obtain ⟨rfl, rfl⟩ := hb
    refine ⟨_, w, G, ?_, i, Ext.refl G h w, hx⟩
    rw [hm]
    exact qN ht hti _ a n _ capY hlc
   ·rename_i hm
    have hposn : 0 < news.length := by rw [src.len]; exact Nat.mul_pos (by omega) (by omega)
    obtain ⟨ad, had, _⟩ := src.at_ 0 _ (List.getElem?_eq_getElem hposn)
    subst had
    have hnews : ∀ j u, news[j]? = some u → w.cell? (ad.add j) = some u := fun j u hu => by
     obtain ⟨ad', e1, e2⟩ := src.at_ j u hu; cases e1; exact e2
    have hone := src.one
    have hnl : news.length = new.length * ti.size := by rw [hts]; exact src.len
    obtain ⟨f1, f2⟩ := src.flat
    have hnt : n ≤ tot := by omega
    have hns : n * szb ≤ tot * szb := Nat.mul_le_mul_right _ hnt
    have hts2 : tot * szb ≤ C.size := by rw [g5]; exact Nat.mul_le_mul_right _ g3
    have room : ∀ {m : Nat}, n + new.length ≤ cap → m = n + new.length →
      (Builtin.append_ #[t, t] ty #[.slice (some ⟨b', 0, none⟩) n cap, .slice (some ad) new.length capY]).run P w =
      .ok (.slice (some ⟨b', 0, none⟩) m cap) (w.setRow b' (C.toList.take (n * szb) ++ news ++ C.toList.drop (n * szb + news.length)).toArray) := by
     intro m hroom hm'
     subst hm'
     have hfit : n * ti.size + news.length ≤ C.size := by rw [hts, src.len, g5, ← Nat.add_mul]; exact Nat.mul_le_mul_right _ hroom
     have hf := run_firstCells_some (P := P) w ti.size new.length ad new.length capY news hnl hnews
     have hst := run_storeCells_at P b' (n * ti.size) e0 news 0 C w g2 (by simpa using hfit) hone
     simp only [Nat.add_zero] at hst
     rw [← hts]
     simp [Builtin.append_, run_underlying ht, Go.sizeOf, Go.typeInfo, hti, Builtin.lenOf, hroom, hf, Addr.add_lit, hst]
    split at hb
    ·-- within what is there
     rename_i hin
     simp only [Option.some.injEq, Prod.mk.injEq] at hb
     obtain ⟨rfl, rfl⟩ := hb
     have hle : n * szb + new.flatten.length ≤ cs.length := by
      rw [f1, src.len, g7, ← Nat.add_mul]; exact Nat.mul_le_mul_right _ hin
     obtain ⟨w1, w2⟩ := i.GR (off := n * szb) (vs := new.flatten) (U := news) hid hcur g2 hle f1.symm (fun j u hu => by
      obtain ⟨c1, u', c2, c3⟩ := f2 j u hu
      refine ⟨c1, ?_⟩
      rw [List.getD_eq_getElem?_getD, c2]; exact c3)
     refine ⟨_, _, G, room (by omega) rfl, w1, w2, Ae (cs := putCells cs (n * szb) new.flatten) ?_ hcur hin g3⟩
     simp [(List.getElem?_eq_some_iff.1 hid).1]
    ·rename_i hin
     simp only [Option.some.injEq, Prod.mk.injEq] at hb
     obtain ⟨rfl, rfl⟩ := hb
     have htk : (cs.take (n * szb)).length = n * szb := by rw [List.length_take]; omega
     have hcl : (cs.take (n * szb) ++ new.flatten).length = (n + new.length) * szb := by
      rw [List.length_append, htk, f1, src.len, Nat.add_mul]
     have cells : ∀ (C' : Array Value), (∀ k, k < n * szb → C'[k]? = C[k]?) → (∀ k u, news[k]? = some u → C'[n * szb + k]? = some u) →
       ∀ (j : Nat) (u : kR), (cs.take (n * szb) ++ new.flatten)[j]? = some u → u.mC = true ∧ lM G h u (C'.getD j undef) := by
      intro C' hC1 hC2 j u hu
      by_cases hj : j < n * szb
      ·rw [List.getElem?_append_left (by omega), List.getElem?_take, if_pos hj] at hu
       have := g9 j u hu
       rw [Array.getD_eq_getD_getElem?] at this ⊢
       rw [hC1 j hj]; exact this
      ·rw [List.getElem?_append_right (by omega), htk] at hu
       obtain ⟨c1, u', c2, c3⟩ := f2 _ u hu
       refine ⟨c1, ?_⟩
       have := hC2 _ _ c2
       rw [show n * szb + (j - n * szb) = j by omega] at this
       rw [Array.getD_eq_getD_getElem?, this]; exact c3
     by_cases hroom : n + new.length ≤ cap
     ·have hfit : n * szb + news.length ≤ C.size := by rw [src.len, g5, ← Nat.add_mul]; exact Nat.mul_le_mul_right _ hroom
      obtain ⟨G', k5, k6, k7⟩ := i.Io (id := id) (tot' := n + new.length) (sz := szb) (bb := b') (cap' := cap) (cs' := cs.take (n * szb) ++ new.flatten)
       (C' := (C.toList.take (n * szb) ++ news ++ C.toList.drop (n * szb + news.length)).toArray) (e' := e0)
       (w' := w.setRow b' (C.toList.take (n * szb) ++ news ++ C.toList.drop (n * szb + news.length)).toArray) hid (.inr ⟨tot, szb, cs, rfl, by omega⟩) (by simp) (by simp) (by simp) (by simp)
       (fun k hk hne => setRow_other w b' k _ (fun e => hne (by simp [mT, hcur, Value.ownBlock, e]))) (.inr (by simp [mT, hcur, Value.ownBlock])) (setRow_heap w b' C _ e0 _ g2) hroom g4
       (by simp; omega) g6 hcl (cells _ (fun k hk => by rw [rI C news _ k hfit, if_pos hk]) (fun k u hu => by
        have := (List.getElem?_eq_some_iff.1 hu).1
        rw [rI C news _ _ hfit, if_neg (by omega), if_pos (by omega), show n * szb + k - n * szb = k by omega]; exact hu))
      refine ⟨_, _, G', room hroom rfl, k5, k6, Ae (cs := cs.take (n * szb) ++ new.flatten) ?_ k7 (Nat.le_refl _) hroom⟩
      simp [(List.getElem?_eq_some_iff.1 hid).1]
     ·have hxl : (C.toList.take (n * szb)).length = n * szb := by
       rw [List.length_take, Array.length_toList]; omega
      have hxc : ∀ j u, (C.toList.take (n * szb))[j]? = some u → w.cell? ((⟨b', 0, none⟩ : Addr).add j) = some u := by
       intro j u hu
       rw [List.getElem?_take] at hu
       split at hu
       ·rw [add_plain, cell_of w _ _ g2, Nat.zero_add]; rwa [Array.getElem?_toList] at hu
       ·cases hu
      have hrun := run_append_grow (P := P) w t ty e ti Z ht hti hzz ⟨b', 0, none⟩ n cap (C.toList.take (n * szb)) (by rw [hts]; exact hxl) hxc ad new.length capY news hnl hnews (by omega) (by omega)
       (growslice_fits (by omega) (by rw [htb]; exact hbytes))
      have hcapg := grownCap_ge w (n + new.length) cap e
      have hcapm := grownCap_le_maxLen w (n + new.length) cap e (by simp only [maxLen]; omega)
      obtain ⟨G', k5, k6, k7⟩ := i.Io (id := id) (tot' := n + new.length) (sz := szb) (bb := w.heap.size) (cap' := grownCap w (n + new.length) cap e) (cs' := cs.take (n * szb) ++ new.flatten)
       (w' := w.drew.alloc (.cells ((C.toList.take (n * szb)).toArray ++ news.toArray ++ Builtin.zeroCells Z.cells (grownCap w (n + new.length) cap e - (n + new.length))) e)) hid
       (.inr ⟨tot, szb, cs, rfl, by omega⟩) rfl rfl rfl (by simp)
       (fun k hk _ => nP w.drew _ k hk) (.inl (Nat.le_refl _)) (heap_alloc_new w.drew _) (by omega) hcapm
       (by simp only [Array.size_append, List.size_toArray, size_zeroCells, hZs, src.len, hxl, ← Nat.add_mul]; congr 1; omega)
       g6 hcl (cells _ (fun k hk => by
        rw [Array.getElem?_append_left (by simp [hxl, src.len]; omega), List.append_toArray, List.getElem?_toArray, List.getElem?_append_left (by omega), List.getElem?_take, if_pos hk, Array.getElem?_toList]) (fun k u hu => by
        have hk := (List.getElem?_eq_some_iff.1 hu).1
        rw [Array.getElem?_append_left (by simp only [List.append_toArray, List.size_toArray, List.length_append, hxl]; omega), List.append_toArray, List.getElem?_toArray, List.getElem?_append_right (by omega), hxl, show n * szb + k - n * szb = k by omega]; exact hu))
      refine ⟨_, _, G', hrun, k5, k6, Ae (cs := cs.take (n * szb) ++ new.flatten) ?_ k7 (Nat.le_refl _) hcapg⟩
      simp [(List.getElem?_eq_some_iff.1 hid).1]
  ·cases hb
 ·cases hb
theorem BT {r : kR} {h' : kT} (i : Inv G h w) (hb : rC h x = some (r, h')) (hx : lM G h x X) : ∃ G', Inv G' h' w ∧ Ext G h w G' h' w ∧ lM G' h' r X := by
 unfold rC at hb
 split at hb
 ·rename_i id tot off len sz
  split at hb
  ·rename_i x0 hgv
   have hid := qO hgv
   split at hb
   ·rename_i row hrow
    split at hb
    case isFalse => cases hb
    rename_i hle
    simp only [Option.some.injEq, Prod.mk.injEq] at hb
    obtain ⟨rfl, rfl⟩ := hb
    obtain ⟨b, cap, rfl, hnf, htot, hlc, hv⟩ := hx.pP
    obtain ⟨b', cap', C, e0, g1, g2, g3, g4, g5, g6, g7, g8, g9⟩ := i.mX id _ hid
    obtain ⟨l0, cap0, k1, k2, k3, k4⟩ := hv (by rw [g1]; rfl)
    have hcur := g1
    rw [g1] at k1
    simp only [Value.slice.injEq, Option.some.injEq, Addr.mk.injEq] at k1
    obtain ⟨⟨rfl, _⟩, _, rfl⟩ := k1
    let G' : Gh := { G with H := fun b k => if b = b' then C[k]? else G.H b k }
    have hH : ∀ b k, G'.H b k = if b = b' then C[k]? else G.H b k := fun _ _ => rfl
    have hmono : ∀ b k v, G.H b k = some v → G'.H b k = some v := by
     intro b k v hvv
     rw [hH]
     by_cases hbe : b = b'
     ·subst hbe; rw [g8] at hvv; cases hvv
     ·rw [if_neg hbe]; exact hvv
    have key := i.step (G' := G') (w' := w) id (.vec tot x0.1 x0.2) .gone hid rfl rfl rfl (Nat.le_refl _) (fun _ _ _ => rfl) (fun _ _ => rfl) (fun _ _ => rfl) hmono
     (fun b k _ hne => by
      rw [hH, if_neg]
      rintro rfl
      exact hne (by simp [mT, hcur, Value.ownBlock]))
     (fun b k v hbb hvv => by
      rw [hH] at hvv
      split at hvv
      ·rename_i he; subst he; rw [cell_of w _ _ g2]; exact hvv
      ·exact i.ok b k v hvv)
     ⟨rfl, Nat.le_refl _, fun _ => rfl⟩ (fun _ => trivial) (fun b hb => by cases hb)
    refine ⟨G', key.1, key.2, .p _ _ ?_⟩
    obtain ⟨p1, p2⟩ := pR hrow
    have hdl : ((x0.2.drop off).take (len * sz)).length = len * sz := by rw [List.length_take, List.length_drop]; omega
    rw [hdl] at p1
    refine y7 (F := fun j => C.getD (off + j) undef) (by omega) hlc fun j v hvv _ => ?_
    have hj : j < len * sz := by rw [← p1]; exact (List.getElem?_eq_some_iff.1 hvv).1
    obtain ⟨c', e1, e2⟩ := p2 j _ (List.getElem?_eq_getElem (by omega))
    rw [hvv] at e1; cases e1
    have hcs : x0.2[off + j]? = some (((x0.2.drop off).take (len * sz))[j]'(by omega)) := by
     have := List.getElem?_eq_getElem (l := (x0.2.drop off).take (len * sz)) (i := j) (by omega)
     rw [List.getElem?_take, if_pos hj, List.getElem?_drop] at this
     exact this
    obtain ⟨_, hrel⟩ := g9 _ _ hcs
    obtain ⟨z1, z2⟩ := tL e2 hrel
    have hlt : off + j < C.size := by
     have := (List.getElem?_eq_some_iff.1 hcs).1
     have h2 : x0.2.length ≤ C.size := by rw [g7, g5]; exact Nat.mul_le_mul_right _ g3
     omega
    refine ⟨?_, z1.mono hmono, z2⟩
    rw [hH, if_pos rfl, Array.getElem?_eq_getElem hlt]
    simp [Array.getD_eq_getD_getElem?, hlt]
   ·cases hb
  ·cases hb
 ·simp only [Option.some.injEq, Prod.mk.injEq] at hb
  obtain ⟨rfl, rfl⟩ := hb
  exact ⟨G, i, Ext.refl G h w, hx⟩
theorem B4 {t e : TypeId} {len sz : Nat} {z r : kR} {h' : kT} {parts : Array (Nat × Operand)} {f : Operand → kR} {F : Operand → Value}
  (i : Inv G h w) (ht : P.underlying t = some (.slice e)) (hz : qH P e = some z) (hn : nY P e = some sz) (hsz : sz ≠ 0) (hle : len * sz ≤ 16777216) (hf : ∀ o, lM G h (f o) (F o)) (hzj : z.oI = false)
  (hb : pY len sz z.cells (parts.toList.map fun p => (p.1, f p.2)) h = some (r, h')) :
  ∃ V w' G', (Instr.buildSlice t len (parts.map fun (i, x) => (i, F x))).run P w = .ok V w' ∧ Inv G' h' w' ∧ Ext G h w G' h' w' ∧ lM G' h' r V := by
 unfold pY at hb
 split at hb
 ·rename_i rows hrows
  simp only [Option.some.injEq, Prod.mk.injEq] at hb
  obtain ⟨rfl, rfl⟩ := hb
  obtain ⟨cs, row, C, h1, rfl, h3, h4, h5, h6⟩ := wT (G := G) (h := h) (w := w) ht hz hn hsz hle hf hzj hrows
  obtain ⟨G1, i1, x1, hc1, hH1⟩ := i.Bv
  obtain ⟨p1, p2⟩ := pR h1
  have hcl : cs.length = len * sz := by rw [h3.1, h4]
  obtain ⟨q1, q2, q3⟩ := p7 len sz row (by omega)
  obtain ⟨f1, f2⟩ := v7 _ q2
  obtain ⟨G', g1, g2, g3⟩ := i1.Io (id := h.length) (tot' := len) (sz := sz) (bb := w.heap.size) (cap' := len) (cs' := (rowsOf len sz row).flatten) (C' := C) (e' := e) (w' := w.alloc (.cells C e)) (by simp) (.inl rfl) rfl rfl rfl (by simp)
   (fun k hk _ => nP w _ k hk) (.inl (Nat.le_refl _)) (heap_alloc_new w _) (Nat.le_refl _) h5 h4 (by omega) (by rw [f1, q1]) (fun k u hu => by
    obtain ⟨i', j, r, a1, a2, rfl⟩ := f2 k u hu
    have hr := q3 i' j r u a1 a2
    have hlt : i' * sz + j < cs.length := by rw [← p1]; exact (List.getElem?_eq_some_iff.1 hr).1
    obtain ⟨c', e1, e2⟩ := p2 _ _ (List.getElem?_eq_getElem hlt)
    rw [hr] at e1; cases e1
    obtain ⟨z1, z2⟩ := tL e2 (h3.2 _ _ (List.getElem?_eq_getElem hlt))
    refine ⟨z2, .p _ _ ?_⟩
    rw [hH1]; exact z1)
  have hset : (h ++ [lW.front 0 0]).set h.length (.vec len sz (rowsOf len sz row).flatten) = h ++ [.vec len sz (rowsOf len sz row).flatten] := by simp
  rw [hset] at g1 g2
  exact ⟨_, _, G', h6, g1, x1.trans g2, Ae (cs := (rowsOf len sz row).flatten) (by simp) g3 (Nat.le_refl _) (Nat.le_refl _)⟩
 ·unfold CL at hb
  split at hb
  ·rename_i cs hbd
   split at hb
   case isFalse => cases hb
   rename_i hcond
   obtain ⟨hzl, hall⟩ := hcond
   simp only [Option.some.injEq, Prod.mk.injEq] at hb
   obtain ⟨rfl, rfl⟩ := hb
   obtain ⟨C, h3, h4, h5, h6⟩ := yJ (G := G) (h := h) (w := w) ht hz hn hsz hle hf hzj hzl hbd
   obtain ⟨G1, i1, x1, hc1, hH1⟩ := i.Bv
   have hcl : cs.length = len * sz := by rw [h3.1, h4]
   obtain ⟨G', g1, g2, g3⟩ := i1.Io (id := h.length) (tot' := len) (sz := sz) (bb := w.heap.size) (cap' := len) (cs' := cs) (C' := C) (e' := e) (w' := w.alloc (.cells C e)) (by simp) (.inl rfl) rfl rfl rfl (by simp)
    (fun k hk _ => nP w _ k hk) (.inl (Nat.le_refl _)) (heap_alloc_new w _) (Nat.le_refl _) h5 h4 (by omega) hcl (fun k u hu =>
     ⟨List.all_eq_true.1 hall u (List.mem_of_getElem? hu), (h3.2 k u hu).mono x1.toMono⟩)
   have hset : (h ++ [lW.front 0 0]).set h.length (.vec len sz cs) = h ++ [.vec len sz cs] := by simp
   rw [hset] at g1 g2
   exact ⟨_, _, G', h6, g1, x1.trans g2, Ae (cs := cs) (by simp) g3 (Nat.le_refl _) (Nat.le_refl _)⟩
  ·cases hb
theorem IH {t t2 e ty : TypeId} {r : kR} {h' : kT} (i : Inv G h w) (ht : P.underlying t = some (.slice e)) (hn : nY P e = some 1)
  (hb : LW h x y = some (r, h')) (hx : lM G h x X) (hy : lM G h y Y) :
  ∃ V w' G', (Builtin.copy_ #[t, t2] ty #[X, Y]).run P w = .ok V w' ∧ Inv G' h' w' ∧ Ext G h w G' h' w' ∧ lM G' h' r V := by
 obtain ⟨ti, hti, hts⟩ : ∃ ti, P.info? e = some ti ∧ ti.size = 1 := by
  unfold nY at hn
  cases hi : P.info? e with
  | none => simp [hi] at hn
  | some ti => simp [hi] at hn; exact ⟨ti, rfl, hn⟩
 unfold LW at hb
 split at hb
 ·rename_i id tot off len bs
  split at hb
  ·rename_i x0 hgv
   have hid := qO hgv
   split at hb
   case isFalse => cases hb
   rename_i hcond
   obtain ⟨hle, hx1⟩ := hcond
   simp only [Option.some.injEq, Prod.mk.injEq] at hb
   obtain ⟨rfl, rfl⟩ := hb
   have hY := hy.wD
   subst hY
   obtain ⟨b, cap, rfl, hnf, htot, hlc, hv⟩ := hx.pP
   obtain ⟨b', cap', C, e0, g1, g2, g3, g4, g5, g6, g7, g8, g9⟩ := i.mX id _ hid
   obtain ⟨l0, cap0, k1, k2, k3, k4⟩ := hv (by rw [g1]; rfl)
   have hcur := g1
   rw [g1] at k1
   simp only [Value.slice.injEq, Option.some.injEq, Addr.mk.injEq] at k1
   obtain ⟨⟨rfl, _⟩, _, rfl⟩ := k1
   obtain ⟨szb, cs⟩ := x0
   simp only at hx1 hid g5 g6 g7 g9 hle
   subst hx1
   have hU : ((bs.take len).map fun b => Value.int .u8 b.toNat).length = ((bs.take len).map fun b => kR.int .u8 b.toNat).length := by simp
   have hfit : off + ((bs.take len).map fun b => kR.int .u8 b.toNat).length ≤ cs.length := by
    rw [List.length_map, List.length_take]; omega
   obtain ⟨w1, w2⟩ := i.GR (off := off) (vs := (bs.take len).map fun b => kR.int .u8 b.toNat) (U := (bs.take len).map fun b => Value.int .u8 b.toNat) hid hcur g2 hfit hU (fun j u hu => by
    rw [List.getElem?_map, Option.map_eq_some_iff] at hu
    obtain ⟨c, hc, rfl⟩ := hu
    refine ⟨rfl, ?_⟩
    rw [List.getD_eq_getElem?_getD, List.getElem?_map, hc]
    exact .p _ _ (.int _ _))
   have hCl : cs.length ≤ C.size := by rw [g7, g5]; exact Nat.mul_le_mul_right _ g3
   have hone : ∀ u ∈ ((bs.take len).map fun b => Value.int .u8 b.toNat), u.oneCell' = true := by
    intro u hu
    obtain ⟨c, _, rfl⟩ := List.mem_map.1 hu
    rfl
   have hst := run_storeCells_at P b' off e0 ((bs.take len).map fun b => Value.int .u8 b.toNat) 0 C w g2 (by simp only [Nat.add_zero, List.length_map, List.length_take] at hfit ⊢; omega) hone
   simp only [Nat.add_zero] at hst
   refine ⟨.int .i64 (min bs.length len : Nat), _, G, ?_, w1, w2, .p _ _ (.int _ _)⟩
   have hsz : (⟨bs.toArray⟩ : ByteArray).size = bs.length := by simp [ByteArray.size]
   have e5 : List.take (min len bs.length) (List.map (fun b => Value.int .u8 b.toNat) bs) = List.take len (List.map (fun b => Value.int .u8 b.toNat) bs) := by
    rw [List.take_eq_take_iff]
    simp only [List.length_map]
    omega
   rw [List.map_take] at hst
   have e6 : bs.length.min len = min len bs.length := Nat.min_comm _ _
   simp [Builtin.copy_, run_underlying ht, Go.sizeOf, Go.typeInfo, hti, hts, Builtin.lenOf, hsz, Builtin.firstCells, Sem.run_pure, e6, e5, hst, goInt, Nat.min_comm bs.length len]
  ·cases hb
 ·cases hb
theorem CO {t e : TypeId} {sz by_ : Nat} {z r : kR} {h' : kT} (i : Inv G h w) (ht : P.underlying t = some (.slice e)) (hn : nY P e = some sz) (hby : xZ P e = some by_) (hz : qH P e = some z)
  (h0 : sz ≠ 0) (hj : z.oI = false) (hl : z.cells.length = sz) (hk : z.cells.all kR.mC = true) (hb : oK sz by_ z.cells x h = some (r, h')) {k k' : IntKind} {n : Int} (hxn : x = .int k n) (hX : X = .int k n) (hY : Y = .int k' n) :
  ∃ V w' G', (Instr.makeSlice t X Y).run P w = .ok V w' ∧ Inv G' h' w' ∧ Ext G h w G' h' w' ∧ lM G' h' r V := by
 subst hxn; subst hX; subst hY
 simp only [oK] at hb
 split at hb
 case isFalse => cases hb
 rename_i hcond
 obtain ⟨hn0, hbytes, hmax⟩ := hcond
 simp only [Option.some.injEq, Prod.mk.injEq] at hb
 obtain ⟨rfl, rfl⟩ := hb
 obtain ⟨m, rfl⟩ := Int.eq_ofNat_of_zero_le hn0
 simp only [Int.toNat_natCast] at *
 unfold nY at hn; unfold xZ at hby; unfold qH at hz
 cases hi : P.info? e with
 | none => simp [hi] at hn
 | some ti =>
  simp only [hi, Option.map_some, Option.some.injEq, Option.bind_some, Option.map_eq_some_iff] at hn hby hz
  obtain ⟨Z, hZ, hz⟩ := hz
  have hrun := run_make (P := P) w t e ti Z ht hi hZ k k' m m hn0 (Int.le_refl _) (by
   rw [hby]
   have : ((m * by_ : Nat) : Int) ≤ 140737488355328 := by omega
   rw [Int.natCast_mul] at this
   rw [Int.mul_comm]; omega) (by omega)
  obtain ⟨G1, i1, x1, hc1, hH1⟩ := i.Bv
  have hrz : lM G1 (h ++ [.front 0 0]) z Z := by rw [← hz]; exact sH G1 _ Z
  have hcz := sE hj hrz
  have hrc := uA (G := G1) (h := h ++ [lW.front 0 0]) hcz m
  have hmade : madeCells Z.cells ((m : Int).toNat * ti.size) = (Array.range (m * Z.cells.size)).map fun j => Z.cells[j % Z.cells.size]! := by
   rw [hn, ← hl, hcz.1]; simp [madeCells]
  rw [hmade] at hrun
  have hfl : (List.replicate m z.cells).flatten.length = m * sz := by simp [hl]
  obtain ⟨G', g1, g2, g3⟩ := i1.Io (id := h.length) (tot' := m) (sz := sz) (bb := w.heap.size) (cap' := m) (cs' := (List.replicate m z.cells).flatten) (C' := (Array.range (m * Z.cells.size)).map fun j => Z.cells[j % Z.cells.size]!) (e' := e)
   (w' := w.alloc (.cells ((Array.range (m * Z.cells.size)).map fun j => Z.cells[j % Z.cells.size]!) e)) (by simp) (.inl rfl) rfl rfl rfl (by simp)
   (fun k hk _ => nP w _ k hk) (.inl (Nat.le_refl _)) (heap_alloc_new w _) (Nat.le_refl _) (by simp only [maxLen]; omega) (by simp [← hcz.1, hl]) (by omega) hfl (fun k u hu => by
    refine ⟨?_, hrc.2 k u hu⟩
    obtain ⟨l, hl1, hl2⟩ := List.mem_flatten.1 (List.mem_of_getElem? hu)
    rw [(List.mem_replicate.1 hl1).2] at hl2
    exact List.all_eq_true.1 hk u hl2)
  have hset : (h ++ [lW.front 0 0]).set h.length (.vec m sz (List.replicate m z.cells).flatten) = h ++ [.vec m sz (List.replicate m z.cells).flatten] := by simp
  rw [hset] at g1 g2
  exact ⟨_, _, G', by simpa using hrun, g1, x1.trans g2, Ae (cs := (List.replicate m z.cells).flatten) (by simp) g3 (Nat.le_refl _) (Nat.le_refl _)⟩
theorem IG {t e ty : TypeId} {sz : Nat} {z : kR} {h' : kT} {ts : Array TypeId} (i : Inv G h w) (ht : P.underlying t = some (.slice e)) (hz : qH P e = some z) (hzj : z.oI = false)
  (hb : B5 sz z.cells h x = some h') (hx : lM G h x X) (hts : ts[0]? = some t) : ∃ w', (Builtin.clear_ ts ty #[X]).run P w = .ok (.tuple #[]) w' ∧ Inv G h' w' ∧ Ext G h w G h' w' := by
 unfold B5 at hb
 split at hb
 ·rename_i tok
  cases hb
  obtain ⟨a, cap, hX⟩ : ∃ a cap, X = .slice a 0 cap := by
   have := hx.q9
   cases this with
   | slice0 a cap => exact ⟨a, cap, rfl⟩
   | slice rows b off cap sz V _ _ _ _ _ => exact ⟨_, cap, rfl⟩
  subst hX
  refine ⟨w, ?_, i, Ext.refl G _ w⟩
  cases a <;> simp [Builtin.clear_, hts, run_underlying ht, Sem.run_pure]
 ·rename_i id tot off len sz'
  split at hb
  ·rename_i h0
   cases hb
   subst h0
   obtain ⟨b, cap, rfl, _⟩ := hx.pP
   refine ⟨w, ?_, i, Ext.refl G _ w⟩
   simp [Builtin.clear_, hts, run_underlying ht, Sem.run_pure]
  rename_i h0
  split at hb
  ·rename_i x0 hgv
   have hid := qO hgv
   split at hb
   case isFalse => cases hb
   rename_i hcond
   obtain ⟨rfl, hzl, hzk, hle⟩ := hcond
   cases hb
   obtain ⟨b, cap, rfl, hnf, htot, hlc, hv⟩ := hx.pP
   obtain ⟨b', cap', C, e0, g1, g2, g3, g4, g5, g6, g7, g8, g9⟩ := i.mX id _ hid
   obtain ⟨l0, cap0, k1, k2, k3, k4⟩ := hv (by rw [g1]; rfl)
   have hcur := g1
   rw [g1] at k1
   simp only [Value.slice.injEq, Option.some.injEq, Addr.mk.injEq] at k1
   obtain ⟨⟨rfl, _⟩, _, rfl⟩ := k1
   obtain ⟨Z, hz1, hz2⟩ := pU (P := P) (G := G) (h := h) (w := w) hz
   have hcz := sE hzj hz2
   have hrc := uA (G := G) (h := h) hcz len
   have hcl : x0.2.length ≤ C.size := by rw [g7, g5]; exact Nat.mul_le_mul_right _ g3
   have hfl : (List.replicate len z.cells).flatten.length = len * sz' := by simp [hzl]
   have hall : ∀ u ∈ (List.replicate len z.cells).flatten, u.mC = true := fun u hu => by
    obtain ⟨l, hl1, hl2⟩ := List.mem_flatten.1 hu
    rw [(List.mem_replicate.1 hl1).2] at hl2
    exact List.all_eq_true.1 hzk u hl2
   have hrel : ∀ (j : Nat) (u : kR), (List.replicate len z.cells).flatten[j]? = some u → u.mC = true ∧ lM G h u ((Builtin.zeroCells Z.cells len).toList.getD j undef) := fun j u hu => by
    refine ⟨hall u (List.mem_of_getElem? hu), ?_⟩
    have := hrc.2 j u hu
    rw [List.getD_eq_getElem?_getD, Array.getElem?_toList]
    rw [Array.getD_eq_getD_getElem?] at this
    exact this
   have hzs : (Builtin.zeroCells Z.cells len).toList.length = (List.replicate len z.cells).flatten.length := by
    rw [Array.length_toList]; exact hrc.1.symm
   have h1c : ∀ u ∈ (Builtin.zeroCells Z.cells len).toList, u.oneCell' = true := by
    intro u hu
    obtain ⟨j, hj⟩ := List.getElem?_of_mem hu
    have hjl : j < (List.replicate len z.cells).flatten.length := by rw [← hzs]; exact (List.getElem?_eq_some_iff.1 hj).1
    obtain ⟨a1, a2⟩ := hrel j _ (List.getElem?_eq_getElem hjl)
    rw [List.getD_eq_getElem?_getD, hj] at a2
    exact (a2.zT a1).1
   have hst := run_storeCells_at P b' off e0 (Builtin.zeroCells Z.cells len).toList 0 C w g2 (by rw [hzs, hfl]; omega) h1c
   simp only [Nat.add_zero] at hst
   have hw := i.GR (off := off) (vs := (List.replicate len z.cells).flatten) (U := (Builtin.zeroCells Z.cells len).toList) hid hcur g2 (by rw [hfl]; omega) hzs hrel
   refine ⟨_, ?_, hw⟩
   cases len with
   | zero => exact absurd rfl h0
   | succ n => simp [Builtin.clear_, hts, run_underlying ht, hz1, hst, Sem.run_pure]
  ·cases hb
 ·cases hb
theorem EA {t kt e ty : TypeId} {h' : kT} {ts : Array TypeId} (i : Inv G h w) (ht : P.underlying t = some (.map kt e))
  (hb : Ds h x = some h') (hx : lM G h x X) (hts : ts[0]? = some t) : ∃ w', (Builtin.clear_ ts ty #[X]).run P w = .ok (.tuple #[]) w' ∧ Inv G h' w' ∧ Ext G h w G h' w' := by
 unfold Ds at hb
 split at hb
 ·cases hb
  have hX := hx.Cq
  subst hX
  exact ⟨w, by simp [Builtin.clear_, hts, run_underlying ht, Sem.run_pure], i, Ext.refl G _ w⟩
 ·rename_i id
  split at hb
  ·rename_i es hid
   cases hb
   obtain ⟨hX, _⟩ := hx.Db
   subst hX
   obtain ⟨E, clock, g1, g2, g3, g4, g5⟩ := i.mX id _ hid
   obtain ⟨s1, s2⟩ := i.mapStep (es' := []) (E' := #[]) (clock' := clock) hid g1 g3 rfl (by simp) (MapKept.stamped_empty clock)
   refine ⟨_, ?_, s1, s2⟩
   simp [Builtin.clear_, hts, run_underlying ht, MapKept.run_getObj_map g1, MapKept.run_setObj_map _ g1, Sem.run_pure]
  ·cases hb
 ·cases hb
end
end Hk


namespace Hk
open Go Go.RowKit
def yI (G : Gh) (h : kT) (vs : List kR) (A : Array Value) : Prop := vs.length = A.size ∧ ∀ (i : Nat) (v : kR), vs[i]? = some v → lM G h v (A.getD i undef)
def sQ (G : Gh) (h : kT) (w : World) (r : n_) (h' : kT) (e : Ending) (w' : World) : Prop :=
 ∃ G', Ext G h w G' h' w' ∧ Inv G' h' w' ∧ match r with
  | .ret v => ∃ V, e = .returned V ∧ lM G' h' v V
  | .pan v => ∃ V, e = .panicked [{ v := V, recovered := false }] ∧ lM G' h' v V
def qI (P : Program) (A : Af) (K : k9) : Prop :=
 ∀ (f : Nat) (args : List kR) (h : kT) (r : n_) (h' : kT), K f args h = some (r, h') →
  ∀ (G : Gh) (w : World) (X : Array Value), Inv G h w → p8 A G.H → yI G h args X →
   (∀ w, (callFunc f X).run P w = .ok (.enter f X) w) ∧ Calls P f X w (sQ G h w r h')
theorem CF {G : Gh} {h : kT} {x : kR} {X : Value} (hx : lM G h x X) : lM G h x.rS X := by
 cases x <;> simp only [kR.rS] <;> first | exact hx | exact .p _ _ hx.q9
theorem BG {G : Gh} {h : kT} {x : kR} {X : Value} (hx : lM G h x X) : lM G h x.k8 X := by
 have agg : ∀ (cs : List kR) (X : Value), lM G h (.agg cs) X → lM G h (.agg (cs.map kR.rS)) X := by
  intro cs X hx
  obtain ⟨C, rfl, hl, hr⟩ := hx.tQ
  refine .agg _ _ (by simpa using hl) fun i u hu => ?_
  simp only [List.getElem?_map, Option.map_eq_some_iff] at hu
  obtain ⟨a, ha, rfl⟩ := hu
  exact CF (hr i a ha)
 cases x with
 | agg cs => exact agg cs X hx
 | tuple vs =>
  obtain ⟨C, rfl, hl, hr⟩ := hx.zD
  refine .tuple _ _ (by simpa using hl) fun i u hu => ?_
  simp only [List.getElem?_map, Option.map_eq_some_iff] at hu
  obtain ⟨a, ha, rfl⟩ := hu
  have := hr i a ha
  cases a <;> first | exact agg _ _ this | exact CF this
 | _ => exact CF hx
section
variable {J : Act → Prop} {cx : Cx} {o : Oper} {ρ : List kR} {h : kT} {kv kp : kR → kT → Option R} {r : R} {G : Gh} {w : World} {a : Act} {N : Act → World → Prop} {Q : Exit → Act → World → Prop}
def Tj (o : Oper) (kv : kR → kT → Option R) (r : R) (G : Gh) (h : kT) (w : World) (a : Act) (N : Act → World → Prop) : Prop :=
 ∀ v h' G' w' V, kv v h' = some r → Ext G h w G' h' w' → Inv G' h' w' → lM G' h' v V → N (a.put o.dst V) w'
def Qf (kp : kR → kT → Option R) (r : R) (G : Gh) (h : kT) (w : World) (a : Act) (Q : Exit → Act → World → Prop) : Prop :=
 ∀ v h' G' w' V, kp v h' = some r → Ext G h w G' h' w' → Inv G' h' w' → lM G' h' v V → Q (.panic [{ v := V, recovered := false }]) a w'
theorem JY {V : Value} {w' : World} (hr : (execOp a.eval o).run cx.P w = .ok (.value V) w') (hN : N (a.put o.dst V) w') : o.wp cx.P a w N Q := by
 unfold Oper.wp; rw [hr]; exact hN
theorem GQ {w' : World} (hr : (execOp a.eval o).run cx.P w = .ok .skip w') (hN : N (a.put o.dst undef) w') : o.wp cx.P a w N Q := by
 unfold Oper.wp; rw [hr]; exact hN
theorem mO {s : Sem Value} {V : Value} {w' : World} (h : s.run cx.P w = .ok V w') : (do pure (Next.value (← s)) : Sem Next).run cx.P w = .ok (.value V) w' := by
 simp [h, Sem.run_pure]
theorem Gx {s : Sem Unit} {w' : World} (h : s.run cx.P w = .ok () w') : (do s; pure Next.skip : Sem Next).run cx.P w = .ok .skip w' := by
 simp [h, Sem.run_pure]
theorem mQ {v : kR} (i : Inv G h w) (hk : kv v h = some r) (hkv : Tj o kv r G h w a N) (hr : ∃ V, (execOp a.eval o).run cx.P w = .ok (.value V) w ∧ lM G h v V) : o.wp cx.P a w N Q := by
 obtain ⟨V, h1, h2⟩ := hr
 exact JY h1 (hkv v h G w V hk (Ext.refl G h w) i h2)
theorem qA {v : kR} {h' : kT} (hk : kv v h' = some r) (hkv : Tj o kv r G h w a N)
  (hr : ∃ V w' G', (execOp a.eval o).run cx.P w = .ok (.value V) w' ∧ Inv G' h' w' ∧ Ext G h w G' h' w' ∧ lM G' h' v V) : o.wp cx.P a w N Q := by
 obtain ⟨V, w', G', h1, h2, h3, h4⟩ := hr
 exact JY h1 (hkv v h' G' w' V hk h3 h2 h4)
theorem G7 {c : Call} {b : Builtin} (ho : o.op = .call c) (hcal : c.callee = .builtin b) (hb : qK cx b c.argTypes.toList (c.args.toList.map (pZ cx.A ρ)) h kv = some r) (i : Inv G h w)
  (ev : ∀ x, lM G h (pZ cx.A ρ x) (a.eval x)) (hkv : Tj o kv r G h w a N) : o.wp cx.P a w N Q := by
 have run : ∀ (s : Sem Value) (V : Value) (w' : World), s.run cx.P w = .ok V w' → (∀ consts, (builtin b c.argTypes o.type consts (c.args.map a.eval)).run cx.P w = (do pure (Next.value (← s)) : Sem Next).run cx.P w) →
   (execOp a.eval o).run cx.P w = .ok (.value V) w' := by
  intro s V w' h1 h2
  simp only [execOp, ho, resolve, hcal, Sem.run_bind, Sem.run_pure, Result.andThen_ok, invoke]
  exact (h2 _).trans (mO h1)
 unfold qK at hb
 split at hb
 ·rename_i t x hT hA
  obtain ⟨x0, hx0, rfl⟩ : ∃ x0, c.args = #[x0] ∧ x = pZ cx.A ρ x0 := by
   cases hc : c.args with
   | mk l => rw [hc] at hA; cases l with
    | nil => simp at hA
    | cons y r => simp at hA; exact ⟨y, by simp [hA.2], hA.1.symm⟩
  have hT' : c.argTypes = #[t] := by cases hc : c.argTypes with | mk l => rw [hc] at hT; simp at hT; rw [hT]
  split at hb
  ·rename_i n e ht
   refine mQ i hb hkv ⟨.int .i64 n, run (Builtin.len_ #[t] o.type #[a.eval x0]) _ _ ?_ (fun _ => by simp [builtin, hx0, hT']), .p _ _ (.int _ _)⟩
   simp [Builtin.len_, run_underlying ht, goInt, Sem.run_pure]
  ·rename_i ht
   obtain ⟨v, hv, hk⟩ := Option.bind_eq_some_iff.1 hb
   obtain ⟨V, e1, e2⟩ := GY (P := cx.P) (w := w) (ty := o.type) ht hv (ev x0)
   exact mQ i hk hkv ⟨V, run _ _ _ e1 (fun _ => by simp [builtin, hx0, hT']), e2⟩
  ·rename_i e ht
   obtain ⟨v, hv, hk⟩ := Option.bind_eq_some_iff.1 hb
   obtain ⟨V, e1, e2⟩ := IL (P := cx.P) (w := w) (ty := o.type) ht hv (ev x0)
   exact mQ i hk hkv ⟨V, run _ _ _ e1 (fun _ => by simp [builtin, hx0, hT']), e2⟩
  ·cases hb
 ·rename_i x y hA
  obtain ⟨x0, y0, hx0, rfl, rfl⟩ : ∃ x0 y0, c.args = #[x0, y0] ∧ x = pZ cx.A ρ x0 ∧ y = pZ cx.A ρ y0 := by
   cases hc : c.args with
   | mk l => rw [hc] at hA; match l, hA with
    | [p, q], hA => simp at hA; exact ⟨p, q, rfl, hA.1.symm, hA.2.symm⟩
  obtain ⟨v, hv, hk⟩ := Option.bind_eq_some_iff.1 hb
  obtain ⟨V, e1, e2⟩ := Ks (P := cx.P) (w := w) hv (ev x0) (ev y0)
  exact mQ i hk hkv ⟨V, run (Builtin.min2 (a.eval x0) (a.eval y0)) _ _ e1 (fun _ => by simp [builtin, hx0, Builtin.min_]), e2⟩
 ·rename_i x y hA
  obtain ⟨x0, y0, hx0, rfl, rfl⟩ : ∃ x0 y0, c.args = #[x0, y0] ∧ x = pZ cx.A ρ x0 ∧ y = pZ cx.A ρ y0 := by
   cases hc : c.args with
   | mk l => rw [hc] at hA; match l, hA with
    | [p, q], hA => simp at hA; exact ⟨p, q, rfl, hA.1.symm, hA.2.symm⟩
  obtain ⟨v, hv, hk⟩ := Option.bind_eq_some_iff.1 hb
  obtain ⟨V, e1, e2⟩ := Kr (P := cx.P) (w := w) hv (ev x0) (ev y0)
  exact mQ i hk hkv ⟨V, run (Builtin.max2 (a.eval x0) (a.eval y0)) _ _ e1 (fun _ => by simp [builtin, hx0, Builtin.max_]), e2⟩
 ·rename_i t t' x y hT hA
  obtain ⟨x0, y0, hx0, rfl, rfl⟩ : ∃ x0 y0, c.args = #[x0, y0] ∧ x = pZ cx.A ρ x0 ∧ y = pZ cx.A ρ y0 := by
   cases hc : c.args with
   | mk l => rw [hc] at hA; match l, hA with
    | [p, q], hA => simp at hA; exact ⟨p, q, rfl, hA.1.symm, hA.2.symm⟩
  have hT' : c.argTypes = #[t, t'] := by cases hc : c.argTypes with | mk l => rw [hc] at hT; simp at hT; rw [hT]
  split at hb
  ·rename_i e he
   have ht : cx.P.underlying t = some (.slice e) := by unfold Ed at he; split at he <;> simp_all
   cases htt : (t != t') with
   | true => simp only [htt, cond_true] at hb; cases hb
   | false =>
    simp only [htt, cond_false] at hb
    have : t = t' := by simpa using htt
    subst this
    split at hb
    ·rename_i sz by_ z hn hby hz
     cases hg : (sz == 0 || z.oI || z.cells.length != sz) with
     | true => simp only [hg, cond_true] at hb; cases hb
     | false =>
      simp only [hg, cond_false] at hb
      simp only [Bool.or_eq_false_iff, beq_eq_false_iff_ne, bne_eq_false_iff_eq] at hg
      obtain ⟨⟨h0, hj⟩, hl⟩ := hg
      unfold lE at hb
      obtain ⟨⟨p, h'⟩, hv, hk⟩ := Option.bind_eq_some_iff.1 hb
      cases hvec : cx.vec t with
      | false =>
       rw [hvec, cond_false] at hv
       obtain ⟨V, w', G', e1, e2, e3, e4⟩ := GU (P := cx.P) (ty := o.type) i ht hn hby hz hj hl h0 hv (ev x0) (ev y0)
       exact qA hk hkv ⟨V, w', G', run _ _ _ e1 (fun _ => by simp [builtin, hx0, hT']), e2, e3, e4⟩
      | true =>
       rw [hvec, cond_true] at hv
       obtain ⟨V, w', G', e1, e2, e3, e4⟩ := Ff (P := cx.P) (ty := o.type) i ht hn hby hz hj hl h0 hv (ev x0) (ev y0)
       exact qA hk hkv ⟨V, w', G', run _ _ _ e1 (fun _ => by simp [builtin, hx0, hT']), e2, e3, e4⟩
    ·cases hb
  ·cases hb
 ·rename_i t t' x y hT hA
  obtain ⟨x0, y0, hx0, rfl, rfl⟩ : ∃ x0 y0, c.args = #[x0, y0] ∧ x = pZ cx.A ρ x0 ∧ y = pZ cx.A ρ y0 := by
   cases hc : c.args with
   | mk l => rw [hc] at hA; match l, hA with
    | [p, q], hA => simp at hA; exact ⟨p, q, rfl, hA.1.symm, hA.2.symm⟩
  have hT' : c.argTypes = #[t, t'] := by cases hc : c.argTypes with | mk l => rw [hc] at hT; simp at hT; rw [hT]
  split at hb
  ·rename_i e he _
   have ht : cx.P.underlying t = some (.slice e) := by unfold Ed at he; split at he <;> simp_all
   split at hb
   ·rename_i hn _
    unfold lE at hb
    obtain ⟨⟨p, h'⟩, hv, hk⟩ := Option.bind_eq_some_iff.1 hb
    obtain ⟨V, w', G', e1, e2, e3, e4⟩ := IH (P := cx.P) (ty := o.type) (t2 := t') i ht hn hv (ev x0) (ev y0)
    exact qA hk hkv ⟨V, w', G', run _ _ _ e1 (fun _ => by simp [builtin, hx0, hT']), e2, e3, e4⟩
   ·cases hb
  ·cases hb
 ·rename_i t t' x y hT hA
  obtain ⟨x0, y0, hx0, rfl, rfl⟩ : ∃ x0 y0, c.args = #[x0, y0] ∧ x = pZ cx.A ρ x0 ∧ y = pZ cx.A ρ y0 := by
   cases hc : c.args with
   | mk l => rw [hc] at hA; match l, hA with
    | [p, q], hA => simp at hA; exact ⟨p, q, rfl, hA.1.symm, hA.2.symm⟩
  have hT' : c.argTypes[0]? = some t := by cases hc : c.argTypes with | mk l => rw [hc] at hT; simp at hT; rw [hT]; rfl
  split at hb
  ·rename_i kt et ht
   split at hb
   ·rename_i d hd
    cases hf : oG d (pZ cx.A ρ y0) with
    | false => rw [hf] at hb; cases hb
    | true =>
     rw [hf] at hb
     simp only [cond_true] at hb
     obtain ⟨h1, hv, hk⟩ := Option.bind_eq_some_iff.1 hb
     obtain ⟨w', e1, e2, e3⟩ := G0 (P := cx.P) (ty := o.type) i ht hd hf hv (ev x0) (ev y0) hT'
     exact qA hk hkv ⟨_, w', G, run _ _ _ e1 (fun _ => by simp [builtin, hx0]), e2, e3, .tuple _ _ rfl (by simp)⟩
   ·cases hb
  ·cases hb
 ·rename_i t x hT hA
  obtain ⟨x0, hx0, rfl⟩ : ∃ x0, c.args = #[x0] ∧ x = pZ cx.A ρ x0 := by
   cases hc : c.args with
   | mk l => rw [hc] at hA; cases l with
    | nil => simp at hA
    | cons y r => simp at hA; exact ⟨y, by simp [hA.2], hA.1.symm⟩
  have hT' : c.argTypes[0]? = some t := by cases hc : c.argTypes with | mk l => rw [hc] at hT; simp at hT; rw [hT]; rfl
  split at hb
  ·rename_i e ht
   split at hb
   ·rename_i sz z hn hz
    cases hj : z.oI with
    | true => rw [hj] at hb; cases hb
    | false =>
     rw [hj] at hb
     simp only [cond_false] at hb
     obtain ⟨h1, hv, hk⟩ := Option.bind_eq_some_iff.1 hb
     obtain ⟨w', e1, e2, e3⟩ := IG (P := cx.P) (ty := o.type) i ht hz hj hv (ev x0) hT'
     exact qA hk hkv ⟨_, w', G, run _ _ _ e1 (fun _ => by simp [builtin, hx0]), e2, e3, .tuple _ _ rfl (by simp)⟩
   ·cases hb
  ·rename_i kt et ht
   obtain ⟨h1, hv, hk⟩ := Option.bind_eq_some_iff.1 hb
   obtain ⟨w', e1, e2, e3⟩ := EA (P := cx.P) (ty := o.type) i ht hv (ev x0) hT'
   exact qA hk hkv ⟨_, w', G, run _ _ _ e1 (fun _ => by simp [builtin, hx0]), e2, e3, .tuple _ _ rfl (by simp)⟩
  ·cases hb
 ·cases hb
theorem CW (hX : sR cx.P cx.A) (hK : qI cx.P cx.A cx.K) (rsv : Option Nat) (hb : evalOp cx o rsv ρ h kv kp = some r) (i : Inv G h w) (gl : p8 cx.A G.H) (s : oC J G h ρ a)
  (hkv : Tj o kv r G h w a N) (hkp : Qf kp r G h w a Q) : o.wp cx.P a w N Q := by
 have ev : ∀ x, lM G h (pZ cx.A ρ x) (a.eval x) := fun x => s.eval gl x
 unfold evalOp nH at hb
 simp only [] at hb
 split at hb
 ·rename_i x ho
  exact mQ i hb hkv ⟨_, by simp [execOp, ho, Sem.run_pure], ev x⟩
 ·rename_i x ho
  cases hn : yU x with
  | true =>
   simp only [hn, cond_true] at hb
   obtain ⟨G', i', x', hc, _⟩ := i.Bv
   have hx : a.eval x = .slice none 0 0 := by
    unfold yU at hn
    split at hn
    ·rfl
    ·cases hn
   exact JY (by simp [execOp, ho, Sem.run_pure, hx]) (hkv _ _ G' w _ hb x' i' (Lf hc))
  | false =>
   simp only [hn, cond_false] at hb
   exact mQ i hb hkv ⟨_, by simp [execOp, ho, Sem.run_pure], ev x⟩
 ·rename_i c x y ho
  obtain ⟨v, hv, hk⟩ := Option.bind_eq_some_iff.1 hb
  obtain ⟨V, h1, h2⟩ := Ku (P := cx.P) (w := w) hv (ev c) (ev x) (ev y)
  exact mQ i hk hkv ⟨V, by simp only [execOp, ho]; exact h1, h2⟩
 ·rename_i t ho
  split at hb
  ·rename_i n z hn hz
   split at hb
   ·unfold lE at hb
    obtain ⟨⟨p, h'⟩, hv, hk⟩ := Option.bind_eq_some_iff.1 hb
    obtain ⟨V, w', G', h1, h2, h3, h4⟩ := ID (P := cx.P) i hz hv
    exact qA hk hkv ⟨V, w', G', by simp only [execOp, ho]; exact mO h1, h2, h3, h4⟩
   ·unfold lE at hb
    obtain ⟨⟨p, h'⟩, hv, hk⟩ := Option.bind_eq_some_iff.1 hb
    obtain ⟨V, w', G', h1, h2, h3, h4⟩ := Fc (P := cx.P) i hz hv
    exact qA hk hkv ⟨V, w', G', by simp only [execOp, ho]; exact mO h1, h2, h3, h4⟩
  ·cases hb
 ·rename_i t x ho
  split at hb
  ·rename_i n hn
   split at hb
   ·unfold lE at hb
    obtain ⟨⟨p, h'⟩, hv, hk⟩ := Option.bind_eq_some_iff.1 hb
    obtain ⟨V, w', G', h1, h2, h3, h4⟩ := LR (P := cx.P) (t := t) i hv (ev x)
    exact qA hk hkv ⟨V, w', G', by simp only [execOp, ho]; exact mO h1, h2, h3, h4⟩
   ·unfold lE at hb
    obtain ⟨⟨p, h'⟩, hv, hk⟩ := Option.bind_eq_some_iff.1 hb
    obtain ⟨V, w', G', h1, h2, h3, h4⟩ := IE (P := cx.P) (t := t) i hv (ev x)
    exact qA hk hkv ⟨V, w', G', by simp only [execOp, ho]; exact mO h1, h2, h3, h4⟩
  ·cases hb
 ·rename_i t parts ho
  split at hb
  ·rename_i z fs hz ht
   split at hb
   ·rename_i places hp
    cases hj : z.oI with
    | true => simp [hj] at hb
    | false =>
     simp only [hj, cond_false] at hb
     obtain ⟨v, hv, hk⟩ := Option.bind_eq_some_iff.1 hb
     obtain ⟨V, h1, h2⟩ := GV (P := cx.P) (G := G) (h := h) (w := w) ht hz hp ev hj hv
     exact mQ i hk hkv ⟨V, by simp only [execOp, ho]; exact mO h1, h2⟩
   ·cases hb
  ·rename_i z len e hz ht
   split at hb
   ·rename_i n hn
    cases hj : z.oI with
    | true => simp [hj] at hb
    | false =>
     simp only [hj, cond_false] at hb
     obtain ⟨v, hv, hk⟩ := Option.bind_eq_some_iff.1 hb
     obtain ⟨V, h1, h2⟩ := IF (P := cx.P) (G := G) (h := h) (w := w) ht hz hn ev hj hv
     exact mQ i hk hkv ⟨V, by simp only [execOp, ho]; exact mO h1, h2⟩
   ·cases hb
  ·cases hb
 ·rename_i t len parts ho
  split at hb
  ·rename_i e he
   have ht : cx.P.underlying t = some (.slice e) := by unfold Ed at he; split at he <;> simp_all
   split at hb
   ·rename_i n z hn hz
    cases hg : (n == 0 || z.oI || decide (len * n > 16777216)) with
    | true => simp only [hg, cond_true] at hb; cases hb
    | false =>
     simp only [hg, cond_false] at hb
     simp only [Bool.or_eq_false_iff, beq_eq_false_iff_ne, decide_eq_false_iff_not] at hg
     obtain ⟨⟨h0, hj⟩, hle⟩ := hg
     split at hb
     ·unfold lE at hb
      obtain ⟨⟨p, h'⟩, hv, hk⟩ := Option.bind_eq_some_iff.1 hb
      cases hvl : cx.vlit with
      | false =>
       rw [hvl, cond_false] at hv
       obtain ⟨V, w', G', h1, h2, h3, h4⟩ := CM (P := cx.P) i ht hz hn h0 (by omega) ev hj hv
       exact qA hk hkv ⟨V, w', G', by simp only [execOp, ho]; exact mO h1, h2, h3, h4⟩
      | true =>
       rw [hvl, cond_true] at hv
       obtain ⟨V, w', G', h1, h2, h3, h4⟩ := B4 (P := cx.P) i ht hz hn h0 (by omega) ev hj hv
       exact qA hk hkv ⟨V, w', G', by simp only [execOp, ho]; exact mO h1, h2, h3, h4⟩
     ·unfold lE at hb
      obtain ⟨⟨p, h'⟩, hv, hk⟩ := Option.bind_eq_some_iff.1 hb
      obtain ⟨V, w', G', h1, h2, h3, h4⟩ := BK (P := cx.P) i ht hz hn h0 (by omega) ev hj hv
      exact qA hk hkv ⟨V, w', G', by simp only [execOp, ho]; exact mO h1, h2, h3, h4⟩
   ·cases hb
  ·cases hb
 ·rename_i t x ho
  split at hb
  ·rename_i g n hg hn
   obtain ⟨v, hv, hk⟩ := Option.bind_eq_some_iff.1 hb
   obtain ⟨V, h1, h2⟩ := D_ (P := cx.P) hg hn i hv (ev x)
   exact mQ i hk hkv ⟨V, by simp only [execOp, ho]; exact mO h1, h2⟩
  ·cases hb
 ·rename_i t p x ho
  split at hb
  ·rename_i n hn
   cases hfz : cx.frz with
   | false =>
    rw [hfz, cond_false] at hb
    obtain ⟨h', hv, hk⟩ := Option.bind_eq_some_iff.1 hb
    obtain ⟨w', h1, h2, h3⟩ := CP (P := cx.P) hn i hv (ev p) (ev x)
    exact GQ (by simp only [execOp, ho]; exact Gx h1) (hkv _ _ G w' _ hk h3 h2 .undef)
   | true =>
    rw [hfz, cond_true] at hb
    obtain ⟨⟨y, h1⟩, hy, hb⟩ := Option.bind_eq_some_iff.1 hb
    obtain ⟨h', hv, hk⟩ := Option.bind_eq_some_iff.1 hb
    obtain ⟨G1, i1, x1, r1⟩ := BT i hy (ev x)
    obtain ⟨w', g1, g2, g3⟩ := CP (P := cx.P) hn i1 hv ((ev p).mono x1.toMono) r1
    exact GQ (by simp only [execOp, ho]; exact Gx g1) (hkv _ _ G1 w' _ hk (x1.trans g3) g2 .undef)
  ·cases hb
 ·rename_i x ho
  obtain ⟨v, hv, hk⟩ := Option.bind_eq_some_iff.1 hb
  have hx := ev x
  refine mQ i hk hkv ⟨a.eval x, ?_, ?_⟩
  ·unfold lR at hv
   split at hv <;> simp only [Option.some.injEq, reduceCtorEq] at hv
   ·rename_i he; rw [he] at hx; obtain ⟨h1, _⟩ := hx.xM; simp [execOp, ho, h1, Sem.run_pure]
   ·rename_i he; rw [he] at hx; obtain ⟨_, h1, _⟩ := hx.A_; simp [execOp, ho, h1, Sem.run_pure]
   ·rename_i he
    rw [he] at hx
    have := hx.AW
    generalize hX : a.eval x = X at this
    cases this
    simp [execOp, ho, hX, Sem.run_pure]
   ·rename_i he; rw [he] at hx; obtain ⟨F, C, h1, _⟩ := hx.CZ; simp [execOp, ho, h1, Sem.run_pure]
  ·unfold lR at hv
   split at hv <;> simp only [Option.some.injEq, reduceCtorEq] at hv
   all_goals (rename_i he; rw [he] at hx; rw [← hv]; exact hx)
 ·rename_i op t x y yt ho
  split at hb
  ·rename_i fs ht
   split at hb
   ·rename_i ks hks
    obtain ⟨b, hv, hk⟩ := Option.bind_eq_some_iff.1 hb
    have := (Ee (P := cx.P) (w := w) ht hks x y hv (ev x) (ev y)).1
    exact mQ i hk hkv ⟨_, by simp only [execOp, ho]; exact mO this, .p _ _ (.bool _)⟩
   ·cases hb
  ·rename_i fs ht
   split at hb
   ·rename_i ks hks
    obtain ⟨b, hv, hk⟩ := Option.bind_eq_some_iff.1 hb
    have := (Ee (P := cx.P) (w := w) ht hks x y hv (ev x) (ev y)).2
    exact mQ i hk hkv ⟨_, by simp only [execOp, ho]; exact mO this, .p _ _ (.bool _)⟩
   ·cases hb
  ·rename_i ht
   obtain ⟨v, hv, hk⟩ := Option.bind_eq_some_iff.1 hb
   obtain ⟨V, h1, h2⟩ := Kh (P := cx.P) (w := w) ht x y hv (ev x) (ev y)
   exact mQ i hk hkv ⟨V, by simp only [execOp, ho]; exact mO h1, h2⟩
  ·obtain ⟨v, hv, hk⟩ := Option.bind_eq_some_iff.1 hb
   obtain ⟨V, h1, h2⟩ := Fl (P := cx.P) (w := w) t x y hv (ev x) (ev y)
   exact mQ i hk hkv ⟨V, by simp only [execOp, ho]; exact mO h1, h2⟩
  ·obtain ⟨v, hv, hk⟩ := Option.bind_eq_some_iff.1 hb
   obtain ⟨V, h1, h2⟩ := Fl (P := cx.P) (w := w) t x y hv (ev x) (ev y)
   exact mQ i hk hkv ⟨V, by simp only [execOp, ho]; exact mO h1, h2⟩
  ·cases hb
 ·rename_i op t x ho
  obtain ⟨v, hv, hk⟩ := Option.bind_eq_some_iff.1 hb
  obtain ⟨V, h1, h2⟩ := Ot (P := cx.P) (w := w) hv (ev x)
  exact mQ i hk hkv ⟨V, by simp only [execOp, ho]; exact mO h1, h2⟩
 ·rename_i sT dT x ho
  split at hb
  ·rename_i k0 k hs hd
   obtain ⟨v, hv, hk⟩ := Option.bind_eq_some_iff.1 hb
   obtain ⟨V, h1, h2⟩ := Fm (P := cx.P) (w := w) hs hd hv (ev x)
   exact mQ i hk hkv ⟨V, by simp only [execOp, ho]; exact mO h1, h2⟩
  ·rename_i e hs hd
   split at hb
   ·rename_i hu
    obtain ⟨v, hv, hk⟩ := Option.bind_eq_some_iff.1 hb
    have hv : Be h (pZ cx.A ρ x) = some v := by
     cases hrb : cx.rb with
     | true => rw [hrb] at hv; exact hv
     | false =>
      rw [hrb] at hv
      have hv : uN (pZ cx.A ρ x) = some v := hv
      unfold Be
      split
      ·rename_i hx
       unfold uN at hv
       rw [hx] at hv; cases hv
      ·exact hv
    obtain ⟨V, h1, h2⟩ := GW (P := cx.P) i hv (ev x)
    have hsl : ∃ q n c, a.eval x = Value.slice q n c := by
     have hx := ev x
     generalize pZ cx.A ρ x = y at hv hx
     generalize a.eval x = Y at hx
     unfold Be at hv
     split at hv
     ·obtain ⟨b, cap, rfl, _⟩ := hx.pP
      exact ⟨_, _, _, rfl⟩
     ·unfold uN at hv
      split at hv
      ·have hp := hx.q9
       cases hp <;> exact ⟨_, _, _, rfl⟩
      ·cases hv
    obtain ⟨q, n, c, hq⟩ := hsl
    rw [hq] at h1
    exact mQ i hk hkv ⟨V, by
     simp only [execOp, ho, hq]
     refine mO ?_
     simp only [Go.convert, Sem.run_bind, run_underlying hs, run_underlying hd, run_underlying hu, Result.andThen_ok]
     exact h1, h2⟩
   ·cases hb
  ·cases hb
 ·rename_i t ho
  obtain ⟨G', h1, h2, h3⟩ := i.YS
  exact qA hb hkv ⟨.map (some w.heap.size), _, G', by simp only [execOp, ho]; exact mO (run_makeMap t w), h1, h2, h3⟩
 ·rename_i t l c ho
  split at hb
  ·rename_i e he
   have ht : cx.P.underlying t = some (.slice e) := by unfold Ed at he; split at he <;> simp_all
   split at hb
   ·rename_i n by_ z hn hby hz
    cases hg : (n == 0 || z.oI || z.cells.length != n || !(z.cells.all kR.mC) || !(Nf l c)) with
    | true => simp only [hg, cond_true] at hb; cases hb
    | false =>
     simp only [hg, cond_false] at hb
     simp only [Bool.or_eq_false_iff, beq_eq_false_iff_ne, bne_eq_false_iff_eq, Bool.not_eq_false'] at hg
     obtain ⟨⟨⟨⟨h0, hj⟩, hl⟩, hall⟩, hso⟩ := hg
     unfold lE at hb
     obtain ⟨⟨p, h'⟩, hv, hk⟩ := Option.bind_eq_some_iff.1 hb
     obtain ⟨k, k', m, e1, e2, e3⟩ : ∃ k k' m, pZ cx.A ρ l = .int k m ∧ a.eval l = .int k m ∧ a.eval c = .int k' m := by
      have hx := ev l
      have hm : ∃ k m, pZ cx.A ρ l = .int k m := by
       cases hvm : cx.vmk <;> rw [hvm] at hv <;> simp only [cond_true, cond_false] at hv
       ·unfold pD at hv
        split at hv
        ·rename_i k m he; exact ⟨k, m, he⟩
        ·cases hv
       ·unfold oK at hv
        split at hv
        ·rename_i k m he; exact ⟨k, m, he⟩
        ·cases hv
      obtain ⟨k, m, hm⟩ := hm
      rw [hm] at hx
      have hx := hx.pE
      unfold Nf at hso
      split at hso
      ·simp at hso; subst hso; exact ⟨k, k, m, hm, hx, hx⟩
      ·rename_i k1 a1 k2 b1
       simp at hso; subst hso
       simp only [pZ, ofConst, AR, kR.int.injEq] at hm
       obtain ⟨rfl, rfl⟩ := hm
       exact ⟨_, _, _, rfl, rfl, rfl⟩
      ·cases hso
     obtain ⟨V, w', G', h1, h2, h3, h4⟩ : ∃ V w' G', (Instr.makeSlice t (a.eval l) (a.eval c)).run cx.P w = .ok V w' ∧ Inv G' h' w' ∧ Ext G h w G' h' w' ∧ lM G' h' p V := by
      cases hvm : cx.vmk <;> rw [hvm] at hv <;> simp only [cond_true, cond_false] at hv
      ·exact Du (P := cx.P) i ht hn hby hz hj hl hall hv e1 e2 e3
      ·exact CO (P := cx.P) i ht hn hby hz h0 hj hl hall hv e1 e2 e3
     exact qA hk hkv ⟨V, w', G', by simp only [execOp, ho]; exact mO h1, h2, h3, h4⟩
   ·cases hb
  ·cases hb
 ·rename_i t m k ok ho
  split at hb
  ·rename_i kt e ht
   split at hb
   ·rename_i d z hd hz
    cases hf : oG d (pZ cx.A ρ k) with
    | false => simp only [hf, cond_false] at hb; cases hb
    | true =>
     simp only [hf, cond_true] at hb
     obtain ⟨v, hv, hk⟩ := Option.bind_eq_some_iff.1 hb
     obtain ⟨V, h1, h2⟩ := GZ (P := cx.P) i ht hd hz hf hv (ev m) (ev k)
     exact mQ i hk hkv ⟨V, by simp only [execOp, ho]; exact mO h1, h2⟩
   ·cases hb
  ·cases hb
 ·rename_i t m k x ho
  split at hb
  ·rename_i kt e ht
   split at hb
   ·rename_i d hd
    cases hf : oG d (pZ cx.A ρ k) with
    | false => simp only [hf, cond_false] at hb; cases hb
    | true =>
     simp only [hf, cond_true] at hb
     obtain ⟨h', hv, hk⟩ := Option.bind_eq_some_iff.1 hb
     obtain ⟨w', h1, h2, h3⟩ := G4 (P := cx.P) i ht hd hf hv (ev m) (ev k) (ev x)
     exact GQ (by simp only [execOp, ho]; exact Gx h1) (hkv _ _ G w' _ hk h3 h2 .undef)
   ·cases hb
  ·cases hb
 ·rename_i t x ho
  split at hb
  ·cases hb
  ·rename_i d hne hd
   refine mQ i hb hkv ⟨.iface t (a.eval x), ?_, .iface _ _ _ (ev x)⟩
   have : (Instr.makeInterface t (a.eval x)).run cx.P w = .ok (.iface t (a.eval x)) w := by
    unfold Instr.makeInterface
    simp only [Sem.run_bind, run_underlying hd, Result.andThen_ok]
    cases d <;> first | (exact absurd rfl (hne _); done) | simp [Sem.run_pure]
   simp only [execOp, ho]; exact mO this
  ·cases hb
 ·rename_i f first cap ho
  refine mQ i hb hkv ⟨.func (.func f) (first.map a.eval) (cap.map a.eval), by simp only [execOp, ho]; exact mO (by simp only [Instr.makeFunc, Sem.run_pure]), .func f _ _ _ _ (by simp) (by simp) ?_ ?_⟩
  ·intro j u hu
   simp only [List.getElem?_map, Option.map_eq_some_iff, Array.getElem?_toList] at hu
   obtain ⟨x, hx, rfl⟩ := hu
   have : (first.map a.eval).getD j undef = a.eval x := by simp [Array.getD_eq_getD_getElem?, hx]
   rw [this]; exact ev x
  ·intro j u hu
   simp only [List.getElem?_map, Option.map_eq_some_iff, Array.getElem?_toList] at hu
   obtain ⟨x, hx, rfl⟩ := hu
   have : (cap.map a.eval).getD j undef = a.eval x := by simp [Array.getD_eq_getD_getElem?, hx]
   rw [this]; exact ev x
 ·rename_i t x lo hi ho
  obtain ⟨l1, l2⟩ := RQ (G := G) (h := h) ev lo
  obtain ⟨h1, h2⟩ := RQ (G := G) (h := h) ev hi
  split at hb
  ·rename_i ht
   obtain ⟨v, hv, hk⟩ := Option.bind_eq_some_iff.1 hb
   obtain ⟨V, e1, e2⟩ := EF (P := cx.P) (w := w) l1 l2 h1 h2 ht hv (ev x)
   exact mQ i hk hkv ⟨V, by simp only [execOp, ho]; exact mO e1, e2⟩
  ·rename_i e ht
   split at hb
   ·rename_i n hn
    obtain ⟨v, hv, hk⟩ := Option.bind_eq_some_iff.1 hb
    obtain ⟨V, e1, e2⟩ := Fy (P := cx.P) (w := w) l1 l2 h1 h2 ht hn hv (ev x)
    exact mQ i hk hkv ⟨V, by simp only [execOp, ho]; exact mO e1, e2⟩
   ·cases hb
  ·cases hb
 ·rename_i t x f ho
  split at hb
  ·rename_i fs ht
   split at hb
   ·rename_i fd hf
    split at hb
    ·rename_i n hn
     obtain ⟨v, hv, hk⟩ := Option.bind_eq_some_iff.1 hb
     obtain ⟨V, e1, e2⟩ := Fq (P := cx.P) (w := w) ht hf hn hv (ev x)
     exact mQ i hk hkv ⟨V, by simp only [execOp, ho]; exact mO e1, e2⟩
    ·cases hb
   ·cases hb
  ·cases hb
 ·rename_i t x f ho
  split at hb
  ·rename_i fs ht
   split at hb
   ·rename_i fd hf
    split at hb
    ·rename_i g n hg hn
     obtain ⟨v, hv, hk⟩ := Option.bind_eq_some_iff.1 hb
     obtain ⟨V, e1, e2⟩ := II (P := cx.P) (w := w) (ft := fd.type) ht hf hg hn hv (ev x)
     exact mQ i hk hkv ⟨V, by simp only [execOp, ho]; exact mO e1, e2⟩
    ·cases hb
   ·cases hb
  ·cases hb
 ·rename_i t x ix ho
  split at hb
  ·rename_i e ht
   split at hb
   ·rename_i n hn
    obtain ⟨v, hv, hk⟩ := Option.bind_eq_some_iff.1 hb
    obtain ⟨V, e1, e2⟩ := Fv (P := cx.P) (w := w) ht hn hv (ev x) (ev ix)
    exact mQ i hk hkv ⟨V, by simp only [execOp, ho]; exact mO e1, e2⟩
   ·cases hb
  ·rename_i len e ht
   split at hb
   ·rename_i n hn
    obtain ⟨v, hv, hk⟩ := Option.bind_eq_some_iff.1 hb
    obtain ⟨V, e1, e2⟩ := Fu (P := cx.P) (w := w) ht hn hv (ev x) (ev ix)
    exact mQ i hk hkv ⟨V, by simp only [execOp, ho]; exact mO e1, e2⟩
   ·cases hb
  ·cases hb
 ·rename_i t x ix ho
  split at hb
  ·rename_i ht
   obtain ⟨v, hv, hk⟩ := Option.bind_eq_some_iff.1 hb
   obtain ⟨V, e1, e2⟩ := EE (P := cx.P) (w := w) ht hv (ev x) (ev ix)
   exact mQ i hk hkv ⟨V, by simp only [execOp, ho]; exact mO e1, e2⟩
  ·rename_i len e ht
   split at hb
   ·rename_i g n hg hn
    obtain ⟨v, hv, hk⟩ := Option.bind_eq_some_iff.1 hb
    obtain ⟨V, e1, e2⟩ := EC (P := cx.P) (w := w) ht hg hn hv (ev x) (ev ix)
    exact mQ i hk hkv ⟨V, by simp only [execOp, ho]; exact mO e1, e2⟩
   ·cases hb
  ·cases hb
 ·rename_i x ix ho
  obtain ⟨v, hv, hk⟩ := Option.bind_eq_some_iff.1 hb
  obtain ⟨V, e1, e2⟩ := Fp (P := cx.P) (w := w) hv (ev x)
  exact mQ i hk hkv ⟨V, by simp only [execOp, ho]; exact mO e1, e2⟩
 ·rename_i x xt t ho
  split at hb
  ·cases hb
  ·rename_i td hni ht
   split at hb
   ·rename_i z hz
    obtain ⟨v, hv, hk⟩ := Option.bind_eq_some_iff.1 hb
    obtain ⟨Z, hz1, hz2⟩ := pU (P := cx.P) (w := w) (G := G) (h := h) hz
    have hx := ev x
    have run : ∀ X, a.eval x = X → (execOp a.eval o).run cx.P w = (do pure (Next.value (← Instr.typeAssert X xt t true)) : Sem Next).run cx.P w := by
     intro X hX; simp only [execOp, ho, hX]
    unfold xH at hv
    split at hv
    ·rename_i t' u hu
     simp only [Option.some.injEq] at hv
     rw [hu] at hx
     obtain ⟨W, h1, h2⟩ := hx.Bn
     have run1 : (Instr.typeAssert (.iface t' W) xt t true).run cx.P w = if t' = t then .ok (.tuple #[W, .bool true]) w else .ok (.tuple #[Z, .bool false]) w := by
      cases td <;> first | exact (hni _ rfl).elim | (by_cases htt : t' = t <;> simp [Instr.typeAssert, run_underlying ht, Sem.run_pure, htt, hz1])
     by_cases htt : t' = t
     ·have e : (t' == t) = true := by simpa using htt
      rw [e] at hv
      simp only [cond_true] at hv
      subst hv
      refine mQ i hk hkv ⟨.tuple #[W, .bool true], by rw [run _ h1]; exact mO (by rw [run1, if_pos htt]), .tuple _ _ rfl fun j c hc => ?_⟩
      match j with
      | 0 => simp at hc; subst hc; exact h2
      | 1 => simp at hc; subst hc; exact .p _ _ (.bool true)
      | j + 2 => simp at hc
     ·have e : (t' == t) = false := by simpa using htt
      rw [e] at hv
      simp only [cond_false] at hv
      subst hv
      refine mQ i hk hkv ⟨.tuple #[Z, .bool false], by rw [run _ h1]; exact mO (by rw [run1, if_neg htt]), .tuple _ _ rfl fun j c hc => ?_⟩
      match j with
      | 0 => simp at hc; subst hc; exact hz2
      | 1 => simp at hc; subst hc; exact .p _ _ (.bool false)
      | j + 2 => simp at hc
    ·rename_i hu
     simp only [Option.some.injEq] at hv
     rw [hu] at hx
     have h1 : a.eval x = .nilIface := by
      generalize a.eval x = X at hx
      cases hx with
      | p _ _ hp => cases hp; rfl
     have run1 : (Instr.typeAssert .nilIface xt t true).run cx.P w = .ok (.tuple #[Z, .bool false]) w := by
      cases td <;> first | exact (hni _ rfl).elim | simp [Instr.typeAssert, run_underlying ht, Sem.run_pure, hz1]
     subst hv
     refine mQ i hk hkv ⟨.tuple #[Z, .bool false], by rw [run _ h1]; exact mO run1, .tuple _ _ rfl fun j c hc => ?_⟩
     match j with
     | 0 => simp at hc; subst hc; exact hz2
     | 1 => simp at hc; subst hc; exact .p _ _ (.bool false)
     | j + 2 => simp at hc
    ·cases hv
   ·cases hb
  ·cases hb
 ·rename_i x ho
  unfold IM at hb
  split at hb
  ·rename_i t v hv
   have hx := ev x
   rw [hv] at hx
   obtain ⟨W, h1, h2⟩ := hx.Bn
   have hrun : (execOp a.eval o).run cx.P w = .halt (.panic (.iface t W)) w := by
    simp only [execOp, ho, h1, Instr.panic]
    rfl
   unfold Oper.wp
   rw [hrun]
   exact hkp _ _ G w _ hb (Ext.refl G h w) i (.iface _ _ _ h2)
  ·cases hb
 ·rename_i c ho
  split at hb
  ·rename_i b hcal
   exact G7 ho hcal hb i ev hkv
  ·rename_i f hcal
   obtain ⟨⟨g, fi, ca⟩, hv, hk⟩ := Option.bind_eq_some_iff.1 hb
   have hf := ev f
   unfold qC at hv
   split at hv <;> simp only [Option.some.injEq, Prod.mk.injEq, reduceCtorEq] at hv
   rename_i g' fi' ca' hfv
   obtain ⟨rfl, rfl, rfl⟩ := hv
   rw [hfv] at hf
   obtain ⟨F, C, hF, hlf, hlc, hrf, hrc⟩ := hf.CZ
   simp only [] at hk
   unfold k_ at hk
   obtain ⟨⟨res, h'⟩, hcall, hk⟩ := Option.bind_eq_some_iff.1 hk
   have hargs0 : yI G h (fi' ++ c.args.toList.map (pZ cx.A ρ) ++ ca') (F ++ c.args.map a.eval ++ C) := by
    refine ⟨by simp [hlf, hlc], fun j u hu => ?_⟩
    rw [Array.getD_eq_getD_getElem?]
    by_cases h1 : j < fi'.length
    ·rw [List.append_assoc, List.getElem?_append_left h1] at hu
     rw [Array.append_assoc, Array.getElem?_append_left (by omega)]
     have := hrf j u hu
     rwa [Array.getD_eq_getD_getElem?] at this
    ·by_cases h2 : j < fi'.length + c.args.size
     ·rw [List.append_assoc, List.getElem?_append_right (by omega), List.getElem?_append_left (by simp; omega)] at hu
      rw [Array.append_assoc, Array.getElem?_append_right (by omega), Array.getElem?_append_left (by simp; omega)]
      simp only [List.getElem?_map, Option.map_eq_some_iff, Array.getElem?_toList] at hu
      obtain ⟨x, hx, rfl⟩ := hu
      rw [← hlf]
      simp only [Array.getElem?_map, hx, Option.map_some, Option.getD_some]
      exact ev x
     ·rw [List.getElem?_append_right (by simp; omega)] at hu
      rw [Array.getElem?_append_right (by simp; omega)]
      have := hrc _ u hu
      rw [Array.getD_eq_getD_getElem?] at this
      simpa [hlf] using this
   have hargs : yI G h (rT cx.A g' (fi' ++ c.args.toList.map (pZ cx.A ρ) ++ ca')) (F ++ c.args.map a.eval ++ C) := by
    unfold rT
    cases cx.A.grow g' with
    | true => exact hargs0
    | false =>
     refine ⟨by simpa using hargs0.1, fun j u hu => ?_⟩
     simp only [cond_false, List.getElem?_map, Option.map_eq_some_iff] at hu
     obtain ⟨x, hx, rfl⟩ := hu
     exact BG (hargs0.2 j x hx)
   cases hext : cx.A.ext g' with
   | some ek =>
   simp only [vT, hext] at hcall
   obtain ⟨v, V, hr, hrun, hV⟩ := Ma hX hext hcall hargs.1 hargs.2 (w := w)
   cases hr
   have hrun' : (execOp a.eval o).run cx.P w = .ok (.value V) w := by
    simp only [execOp, ho, resolve, hcal, hF, Deferred.ofValue, Sem.run_bind, Sem.run_pure, Result.andThen_ok, invoke]
    exact hrun
   exact JY hrun' (hkv v h G w V hk (Ext.refl G h w) i hV)
   | none =>
   simp only [vT, hext] at hcall
   obtain ⟨henter, hcalls⟩ := hK _ _ _ _ _ hcall G w _ i gl hargs
   have hrun : (execOp a.eval o).run cx.P w = .ok (.enter g' (F ++ c.args.map a.eval ++ C)) w := by
    simp only [execOp, ho, resolve, hcal, hF, Deferred.ofValue, Sem.run_bind, Sem.run_pure, Result.andThen_ok, invoke]
    exact henter w
   unfold Oper.wp
   rw [hrun]
   refine Calls.mono hcalls fun e w' hpost => ?_
   obtain ⟨G', x', i', hres⟩ := hpost
   cases res with
   | ret v =>
    obtain ⟨V, rfl, hV⟩ := hres
    exact hkv v h' G' w' V hk x' i' hV
   | pan v =>
    obtain ⟨V, rfl, hV⟩ := hres
    exact hkp v h' G' w' V hk x' i' hV
  ·cases hb
 ·cases hb
end
end Hk


namespace Hk
open Go Go.RowKit
section
variable {cx : Cx} {o : Oper} {ρ : List kR} {h : kT} {kv kp : kR → kT → Option R} {r : R} {ids : List Nat} {ops : List Oper}
theorem zM {rsv : Option Nat} : evalOp cx o rsv ρ h kv kp = (evalOp cx o rsv ρ h kW yG).bind (kX kv kp) := by
 unfold evalOp
 generalize pZ cx.A ρ = v
 have B : ∀ (e : Option kR), (e.bind fun w => kv w h) = (e.bind fun w => kW w h).bind (kX kv kp) := by intro e; cases e <;> rfl
 have BV : ∀ (e : Option (kR × kT)), lE e kv = (lE e kW).bind (kX kv kp) := by intro e; cases e <;> rfl
 have BR : ∀ (e : Option (n_ × kT)), k_ e kv kp = (k_ e kW yG).bind (kX kv kp) := by
  intro e
  cases e with
  | none => rfl
  | some e => obtain ⟨r, h⟩ := e; cases r <;> rfl
 have BH : ∀ (e : Option kT), (e.bind fun h' => kv (.tuple []) h') = (e.bind fun h' => kW (.tuple []) h').bind (kX kv kp) := by intro e; cases e <;> rfl
 have BB : ∀ (e : Option Bool) (f : Bool → kR), (e.bind fun b => kv (f b) h) = (e.bind fun b => kW (f b) h).bind (kX kv kp) := by intro e f; cases e <;> rfl
 have C : ∀ (b : Bool) (x y : Option R), x = y.bind (kX kv kp) → (bif b then none else x) = (bif b then none else y).bind (kX kv kp) := by intro b x y hxy; cases b <;> simp [hxy]
 have D : ∀ (b : Bool) (x y : Option R), x = y.bind (kX kv kp) → (bif b then x else none) = (bif b then y else none).bind (kX kv kp) := by intro b x y hxy; cases b <;> simp [hxy]
 have bu : ∀ (b : Builtin) (ts : List TypeId) (args : List kR), qK cx b ts args h kv = (qK cx b ts args h kW).bind (kX kv kp) := by
  intro b ts args
  unfold qK
  repeat' split
  all_goals first
   | rfl
   | exact B _
   | exact BV _
   | exact BH _
   | exact D _ _ _ (BH _)
   | exact C _ _ _ (BH _)
   | (refine C _ _ _ ?_; (repeat' split) <;> first | rfl | (refine C _ _ _ ?_; exact BV _))
 have PA : ∀ (x : kR), IM x h kp = (IM x h yG).bind (kX kv kp) := by intro x; cases x <;> rfl
 unfold nH
 cases ho : o.op with
 | panic x => exact PA _
 | call c =>
  simp only []
  cases c.callee with
  | builtin b => exact bu _ _ _
  | value f =>
   simp only []
   cases qC (v f) with
   | none => rfl
   | some g => exact BR _
  | _ => rfl
 | assign x =>
  simp only []
  cases hn : yU x with
  | true => rfl
  | false => rfl
 | store t p x =>
  simp only []
  split
  ·cases cx.frz with
   | false => exact BH _
   | true =>
    simp only [cond_true]
    cases rC h (v x) with
    | none => rfl
    | some y => exact BH _
  ·rfl
 | makeFunc b f c => cases b <;> rfl
 | makeMap t r => cases r <;> rfl
 | typeAssert x xt t ok =>
  cases ok with
  | false => rfl
  | true =>
   simp only []
   repeat' split
   all_goals first
    | rfl
    | exact B _
 | slice t x lo hi mx =>
  cases mx with
  | some _ => rfl
  | none =>
   simp only []
   repeat' split
   all_goals first
    | rfl
    | exact B _
 | _ =>
  simp only []
  repeat' split
  all_goals first
   | rfl
   | exact B _
   | exact BV _
   | exact BH _
   | exact BB _ _
   | (refine C _ _ _ ?_; first | exact B _ | exact BV _ | (split <;> exact BV _))
   | exact D _ _ _ (B _)
   | exact D _ _ _ (BH _)
theorem FL : nI cx o ids ρ h kv kp = (nI cx o ids ρ h kW yG).bind (kX kv kp) := by
 unfold nI
 rw [zM (kv := fun v h' => kv v (nT ids h h')), zM (kv := fun v h' => kW v (nT ids h h')), Option.bind_assoc]
 refine congrArg (Option.bind _) ?_
 funext r
 obtain ⟨e, l, h⟩ := r
 cases e with
 | normal =>
  match l with
  | [] => rfl
  | [v] => rfl
  | _ :: _ :: _ => rfl
 | _ => rfl
def wF (cx : Cx) (ops : List Oper) (o : Oper) (ids : List Nat) (ρ : List kR) (h : kT) (kv : kR → kT → Option R) (kp : kR → kT → Option R) : Option R :=
 match o.guard with
 | none => nI cx o ids ρ h kv kp
 | some (j, want) => match (ops[j]?).bind (·.dst) with
  | some d => match ρ.getD d .junk with
   | .bool g => bif want then (bif g then nI cx o ids ρ h kv kp else kv (.tuple []) h) else (bif g then kv (.tuple []) h else nI cx o ids ρ h kv kp)
   | .tuple [] => kv (.tuple []) h
   | _ => none
  | none => none
theorem xI : qY cx ops o ids ρ h kv kp = wF cx ops o ids ρ h kv kp := by
 unfold qY wF
 cases o.guard with
 | none => rfl
 | some jw =>
  obtain ⟨j, want⟩ := jw
  simp only []
  cases (ops[j]?).bind (·.dst) with
  | none => rfl
  | some d =>
   dsimp only
   generalize ρ.getD d .junk = x
   cases x with
   | bool g => cases want <;> cases g <;> first | rfl | exact FL.symm
   | tuple vs => cases vs <;> rfl
   | _ => rfl
end
end Hk


namespace Hk
open Go Go.RowKit
section
variable {cx : Cx} {o : Oper} {ρ ρ' : List kR} {h h' : kT} {kv kp : kR → kT → Option R} {r : R} {ids : List Nat} {ops : List Oper}
theorem MO {t : Tmp} : t ∈ uT o ↔ Operand.tmp t ∈ o.op.operands := by
 unfold uT
 simp only [List.mem_filterMap, Array.mem_toList_iff]
 constructor
 ·rintro ⟨x, hx, he⟩
  cases x <;> simp at he
  subst he; exact hx
 ·intro hx; exact ⟨_, hx, rfl⟩
theorem FA {A : Af} (hag : ∀ t ∈ uT o, ρ'.getD t .junk = ρ.getD t .junk) {x : Operand} (hx : x ∈ o.op.operands) : pZ A ρ' x = pZ A ρ x := by
 cases x with
 | tmp t => exact hag t (MO.2 hx)
 | _ => rfl
theorem CV {rsv : Option Nat} (hag : ∀ t ∈ uT o, ρ'.getD t .junk = ρ.getD t .junk) : evalOp cx o rsv ρ' h kv kp = evalOp cx o rsv ρ h kv kp := by
 have ev : ∀ x ∈ o.op.operands, pZ cx.A ρ' x = pZ cx.A ρ x := fun x hx => FA hag hx
 unfold evalOp
 generalize pZ cx.A ρ' = v' at *
 generalize pZ cx.A ρ = v at *
 clear hag
 have mapP : ∀ (parts : Array (Nat × Operand)), (∀ p ∈ parts, p.2 ∈ o.op.operands) → (parts.toList.map fun p => (p.1, v' p.2)) = parts.toList.map fun p => (p.1, v p.2) := by
  intro parts hp
  refine List.map_congr_left fun p hm => ?_
  rw [ev p.2 (hp p (by simpa using hm))]
 have mapA : ∀ (xs : Array Operand), (∀ x ∈ xs, x ∈ o.op.operands) → xs.toList.map v' = xs.toList.map v := by
  intro xs hp
  exact List.map_congr_left fun p hm => ev p (hp p (by simpa using hm))
 unfold nH
 cases ho : o.op with
 | call c =>
  simp only [ho, Op.operands, Call.operands] at ev mapA
  cases hc : c.callee with
  | builtin b => simp only [hc] at ev mapA ⊢; rw [mapA c.args (by simp)]
  | value f => simp only [hc] at ev mapA ⊢; rw [mapA c.args (by intro x hx; simp [hx]), ev f (by simp)]
  | _ => simp only [hc]
 | build t parts => simp only [ho, Op.operands] at mapP ⊢; rw [mapP parts (by intro p hp; simp; exact ⟨_, hp⟩)]
 | buildSlice t len parts => simp only [ho, Op.operands] at mapP ⊢; rw [mapP parts (by intro p hp; simp; exact ⟨_, hp⟩)]
 | slice t x lo hi mx =>
  have e1 := ev x (by simp [ho, Op.operands])
  have e2 : lo.map v' = lo.map v := by cases lo with | none => rfl | some l => simp [ev l (by simp [ho, Op.operands])]
  have e3 : hi.map v' = hi.map v := by cases hi with | none => rfl | some l => simp [ev l (by simp [ho, Op.operands])]
  cases mx with
  | none => simp only [e1, e2, e3]
  | some m => rfl
 | makeMap t hint => cases hint <;> rfl
 | typeAssert x xt t ok =>
  cases ok with
  | false => rfl
  | true => simp only [ho, Op.operands] at ev ⊢; rw [ev x (by simp)]
 | makeFunc b first cap =>
  simp only [ho, Op.operands] at mapA
  cases b <;> first | rfl | simp only [mapA cap (by intro x hx; simp [hx]), mapA first (by intro x hx; simp [hx])]
 | _ => simp only [ho, Op.operands] at ev ⊢ <;> simp_all
def pK (h : kT) (id : Nat) : Prop := (∃ cs, h[id]? = some (.cells cs)) ∨ (∃ es, h[id]? = some (.map es)) ∨ ∃ tot sz cs, h[id]? = some (.vec tot sz cs)
def tZ (cx : Cx) (o : Oper) (ρ : List kR) : Option Nat := (r5 o).bind fun x => wM (pZ cx.A ρ x)
theorem QC {g : Bool} {n : Nat} {x v : kR} (hv : kV g n h x = some v) (h2 : kT) (ha : ∀ id, wM x = some id → pK h id → h2[id]? = h[id]?) : kV g n h2 x = some v := by
 cases x with
 | pptr cs => exact hv
 | ptr id off =>
  simp only [kV] at hv ⊢
  have : nJ h2 id = nJ h id := by
   unfold nJ
   cases hb : h[id]? with
   | none => simp [nJ, hb] at hv
   | some bl => cases bl with
    | cells cs => rw [ha id rfl (.inl ⟨cs, hb⟩), hb]
    | _ => simp [nJ, hb] at hv
  rw [this]; exact hv
 | vptr id tot off =>
  simp only [kV] at hv ⊢
  have : nA h2 id tot = nA h id tot := by
   unfold nA
   cases hb : h[id]? with
   | none => simp [nA, hb] at hv
   | some bl => cases bl with
    | vec t s cs => rw [ha id rfl (.inr (.inr ⟨t, s, cs, hb⟩)), hb]
    | _ => simp [nA, hb] at hv
  rw [this]; exact hv
 | _ => simp [kV] at hv
theorem Rj (hrb : cx.rb = false) (he : o9 o = false) (hb : evalOp cx o none ρ h kv kp = some r) :
  ∃ v, kv v h = some r ∧ ∀ (h2 : kT) (kv2 kp2 : kR → kT → Option R), (∀ id, tZ cx o ρ = some id → pK h id → h2[id]? = h[id]?) → evalOp cx o none ρ h2 kv2 kp2 = kv2 v h2 := by
 have key : ∀ {e : Option kR}, (e.bind fun w => kv w h) = some r → (∀ h2 kv2 kp2, evalOp cx o none ρ h2 kv2 kp2 = e.bind fun w => kv2 w h2) →
   ∃ v, kv v h = some r ∧ ∀ (h2 : kT) (kv2 kp2 : kR → kT → Option R), (∀ id, tZ cx o ρ = some id → pK h id → h2[id]? = h[id]?) → evalOp cx o none ρ h2 kv2 kp2 = kv2 v h2 := by
  intro e h1 h2
  obtain ⟨v, hv, hk⟩ := Option.bind_eq_some_iff.1 h1
  exact ⟨v, hk, fun a b c _ => by rw [h2, hv]; rfl⟩
 have key0 : ∀ {v : kR}, kv v h = some r → (∀ h2 kv2 kp2, evalOp cx o none ρ h2 kv2 kp2 = kv2 v h2) →
   ∃ v, kv v h = some r ∧ ∀ (h2 : kT) (kv2 kp2 : kR → kT → Option R), (∀ id, tZ cx o ρ = some id → pK h id → h2[id]? = h[id]?) → evalOp cx o none ρ h2 kv2 kp2 = kv2 v h2 :=
  fun h1 h2 => ⟨_, h1, fun a b c _ => h2 a b c⟩
 unfold evalOp nH at hb
 cases ho : o.op with
 | load t a =>
  simp only [ho] at hb
  split at hb
  ·rename_i g n hg hn
   obtain ⟨v, hv, hk⟩ := Option.bind_eq_some_iff.1 hb
   refine ⟨v, hk, fun h2 kv2 kp2 ha => ?_⟩
   have := QC hv h2 fun id hid hblk => ha id (by simp [tZ, r5, ho, hid]) hblk
   simp only [evalOp, nH, ho, hg, hn, this, Option.bind_some]
  ·cases hb
 | lookup t m k ok =>
  simp only [ho] at hb
  split at hb
  ·rename_i kt e hu
   split at hb
   ·rename_i d z hd hz
    cases hf : oG d (pZ cx.A ρ k) with
    | false => rw [hf] at hb; cases hb
    | true =>
     rw [hf] at hb
     obtain ⟨v, hv, hk⟩ := Option.bind_eq_some_iff.1 hb
     refine ⟨v, hk, fun h2 kv2 kp2 ha => ?_⟩
     have : zG z ok h2 (pZ cx.A ρ m) (pZ cx.A ρ k) = some v := by
      rw [← hv]
      unfold zG
      have hg : AJ h2 (pZ cx.A ρ m) = AJ h (pZ cx.A ρ m) := by
       generalize hm : pZ cx.A ρ m = x at hv
       cases x with
       | map id =>
        simp only [AJ]
        cases hb : h[id]? with
        | none => simp [zG, AJ, hb] at hv
        | some bl => cases bl with
         | map es => rw [ha id (by simp [tZ, r5, ho, hm, wM]) (.inr (.inl ⟨es, hb⟩)), hb]
         | _ => simp [zG, AJ, hb] at hv
       | _ => rfl
      rw [hg]
     simp only [evalOp, nH, ho, hu, hd, hz, hf, cond_true, this, Option.bind_some]
   ·cases hb
  ·cases hb
 | call c =>
  simp only [o9, ho] at he
  simp only [ho] at hb
  cases hc : c.callee with
  | builtin b =>
   simp only [hc] at hb he
   unfold qK at hb
   split at hb
   ·rename_i t x hT hA
    split at hb
    ·rename_i ht; exact key0 hb fun _ _ _ => by simp only [evalOp, nH, ho, hc, qK, hT, hA, ht]
    ·rename_i ht; exact key hb fun _ _ _ => by simp only [evalOp, nH, ho, hc, qK, hT, hA, ht]
    ·rename_i ht; exact key hb fun _ _ _ => by simp only [evalOp, nH, ho, hc, qK, hT, hA, ht]
    ·cases hb
   ·rename_i hA; exact key hb fun _ _ _ => by simp only [evalOp, nH, ho, hc, qK, hA]
   ·rename_i hA; exact key hb fun _ _ _ => by simp only [evalOp, nH, ho, hc, qK, hA]
   ·simp at he
   ·simp at he
   ·simp at he
   ·simp at he
   ·cases hb
  | value f => simp [hc] at he
  | _ => simp [hc] at he
 | binOp op t x y yt =>
  simp only [ho] at hb
  split at hb
  ·rename_i fs hu
   split at hb
   ·rename_i ks hks
    obtain ⟨v, hv, hk⟩ := Option.bind_eq_some_iff.1 hb
    exact ⟨_, hk, fun a b c _ => by simp [evalOp, nH, ho, hu, hks, hv]⟩
   ·cases hb
  ·rename_i fs hu
   split at hb
   ·rename_i ks hks
    obtain ⟨v, hv, hk⟩ := Option.bind_eq_some_iff.1 hb
    exact ⟨_, hk, fun a b c _ => by simp [evalOp, nH, ho, hu, hks, hv]⟩
   ·cases hb
  all_goals first
   | exact key hb fun _ _ _ => by simp [evalOp, nH, *]
   | cases hb
 | assign x =>
  simp only [ho, o9] at he hb
  simp only [he, cond_false] at hb
  exact key0 hb fun _ _ _ => by simp only [evalOp, nH, ho, he, cond_false]
 | makeInterface t x =>
  simp only [ho] at hb
  split at hb
  ·cases hb
  ·exact key0 hb fun _ _ _ => by simp [evalOp, nH, *]
  ·cases hb
 | makeFunc b first cap =>
  cases b <;> simp only [ho] at hb <;> first
   | exact key0 hb fun _ _ _ => by simp only [evalOp, nH, ho]
   | cases hb
 | slice t x lo hi mx =>
  cases mx with
  | some m => simp only [ho] at hb; cases hb
  | none =>
   simp only [ho] at hb
   split at hb
   ·exact key hb fun _ _ _ => by simp [evalOp, nH, *]
   ·split at hb
    ·exact key hb fun _ _ _ => by simp [evalOp, nH, *]
    ·cases hb
   ·cases hb
 | typeAssert x xt t ok =>
  cases ok with
  | false => simp only [ho] at hb; cases hb
  | true =>
   simp only [ho] at hb
   split at hb
   ·cases hb
   ·split at hb
    ·exact key hb fun _ _ _ => by simp only [evalOp, nH, *]
    ·cases hb
   ·cases hb
 | move x =>
  simp only [ho] at hb
  exact key0 hb fun _ _ _ => by simp only [evalOp, nH, ho]
 | fieldAddr t x f =>
  simp only [ho] at hb
  split at hb
  ·split at hb
   ·split at hb
    ·exact key hb fun _ _ _ => by simp [evalOp, nH, *]
    ·cases hb
   ·cases hb
  ·cases hb
 | field t x f =>
  simp only [ho] at hb
  split at hb
  ·split at hb
   ·split at hb
    ·exact key hb fun _ _ _ => by simp [evalOp, nH, *]
    ·cases hb
   ·cases hb
  ·cases hb
 | indexAddr t x i =>
  simp only [ho] at hb
  split at hb
  ·split at hb
   ·exact key hb fun _ _ _ => by simp [evalOp, nH, *]
   ·cases hb
  ·split at hb
   ·exact key hb fun _ _ _ => by simp [evalOp, nH, *]
   ·cases hb
  ·cases hb
 | index t x i =>
  simp only [ho] at hb
  split at hb
  ·exact key hb fun _ _ _ => by simp [evalOp, nH, *]
  ·split at hb
   ·exact key hb fun _ _ _ => by simp [evalOp, nH, *]
   ·cases hb
  ·cases hb
 | convert t t' x =>
  simp only [ho] at hb
  split at hb
  ·exact key hb fun _ _ _ => by simp [evalOp, nH, *]
  ·split at hb
   ·exact key hb fun _ _ _ => by simp [evalOp, nH, *]
   ·cases hb
  ·cases hb
 | build t parts =>
  simp only [ho] at hb
  have kb : ∀ {j : Bool} {e : Option kR}, (bif j then none else e.bind fun w => kv w h) = some r → (∀ h2 kv2 kp2, evalOp cx o none ρ h2 kv2 kp2 = bif j then none else e.bind fun w => kv2 w h2) →
    ∃ v, kv v h = some r ∧ ∀ (h2 : kT) (kv2 kp2 : kR → kT → Option R), (∀ id, tZ cx o ρ = some id → pK h id → h2[id]? = h[id]?) → evalOp cx o none ρ h2 kv2 kp2 = kv2 v h2 := by
   intro j e h1 h2
   cases j with
   | true => cases h1
   | false => exact key h1 h2
  split at hb
  ·split at hb
   ·exact kb hb fun _ _ _ => by simp only [evalOp, nH, *]
   ·cases hb
  ·split at hb
   ·exact kb hb fun _ _ _ => by simp only [evalOp, nH, *]
   ·cases hb
  ·cases hb
 | _ =>
  simp only [ho, o9] at he
  simp only [ho] at hb
  first
   | exact key hb fun _ _ _ => by simp only [evalOp, nH, ho]
   | cases hb
   | (simp at he; done)
theorem w9 {t : Tmp} : t ∈ x4 ops o ↔ t ∈ uT o ∨ XG ops o = some t := by simp [x4, eq_comm]
theorem yN (hag : ∀ t ∈ uT o, ρ'.getD t .junk = ρ.getD t .junk) : nI cx o ids ρ' h kv kp = nI cx o ids ρ h kv kp := CV hag
theorem FI (hag : ∀ t ∈ x4 ops o, ρ'.getD t .junk = ρ.getD t .junk) : qY cx ops o ids ρ' h kv kp = qY cx ops o ids ρ h kv kp := by
 have h1 : nI cx o ids ρ' h kv kp = nI cx o ids ρ h kv kp := yN fun t ht => hag t (w9.2 (.inl ht))
 simp only [xI]
 unfold wF
 cases hg : o.guard with
 | none => exact h1
 | some jw =>
  obtain ⟨j, want⟩ := jw
  simp only []
  cases hd : (ops[j]?).bind (·.dst) with
  | none => rfl
  | some d =>
   simp only []
   rw [hag d (w9.2 (.inr (by simp [XG, hg, hd]))), h1]
theorem Cg (hrb : cx.rb = false) (he : o9 o = false) (hb : qY cx ops o [] ρ h kv kp = some r) :
  ∃ v, kv v h = some r ∧ ∀ (h2 : kT) (kv2 kp2 : kR → kT → Option R), (∀ id, tZ cx o ρ = some id → pK h id → h2[id]? = h[id]?) → qY cx ops o [] ρ h2 kv2 kp2 = kv2 v h2 := by
 have key : ∀ (hb : nI cx o [] ρ h kv kp = some r),
   ∃ v, kv v h = some r ∧ ∀ (h2 : kT) (kv2 kp2 : kR → kT → Option R), (∀ id, tZ cx o ρ = some id → pK h id → h2[id]? = h[id]?) → nI cx o [] ρ h2 kv2 kp2 = kv2 v h2 := by
  intro hb
  obtain ⟨v, h1, h2⟩ := Rj hrb he hb
  exact ⟨v, h1, fun h3 kv2 kp2 ha => h2 h3 _ _ ha⟩
 simp only [xI] at hb ⊢
 unfold wF at hb ⊢
 cases hg : o.guard with
 | none => simp only [hg] at hb ⊢; exact key hb
 | some jw =>
  obtain ⟨j, want⟩ := jw
  simp only [hg] at hb ⊢
  cases hd : (ops[j]?).bind (·.dst) with
  | none => simp only [hd] at hb; cases hb
  | some d =>
   simp only [hd] at hb ⊢
   generalize ρ.getD d .junk = x at hb ⊢
   split at hb
   ·rename_i g
    cases want <;> cases g <;> simp only [cond_true, cond_false] at hb ⊢
    ·exact key hb
    ·exact ⟨_, hb, fun _ _ _ _ => rfl⟩
    ·exact ⟨_, hb, fun _ _ _ _ => rfl⟩
    ·exact key hb
   ·exact ⟨_, hb, fun _ _ _ _ => rfl⟩
   ·cases hb
theorem C1 {dst : Option Tmp} {v : kR} {t : Tmp} (hne : ∀ d, dst = some d → d ≠ t) : (pG ρ dst v).getD t .junk = ρ.getD t .junk := by
 cases dst with
 | none => rfl
 | some d => simp [pG, List.getD_eq_getElem?_getD, List.getElem?_set, hne d rfl]
theorem JF {x y : Option Tmp} {u v : kR} (hne : ∀ d, x = some d → y ≠ some d) : pG (pG ρ x u) y v = pG (pG ρ y v) x u := by
 cases x with
 | none => rfl
 | some d => cases y with
  | none => rfl
  | some e => exact List.set_comm _ _ (fun he => hne d rfl (by rw [he]))
theorem DR {d : Option Tmp} {ts : List Tmp} (hd : RM d ts = true) : ∀ t ∈ ts, ∀ e, d = some e → e ≠ t := by
 rintro t ht e rfl rfl
 simp [RM] at hd
 exact hd ht
theorem Kt {x y : Oper} (ha : IN ops x y = true) :
  (∀ t ∈ x4 ops y, ∀ d, x.dst = some d → d ≠ t) ∧ (∀ t ∈ x4 ops x, ∀ d, y.dst = some d → d ≠ t) ∧ (∀ d, x.dst = some d → y.dst ≠ some d) := by
 simp only [IN, Bool.and_eq_true] at ha
 refine ⟨DR ha.1.1, DR ha.1.2, fun d hd he => ?_⟩
 exact DR ha.2 d (by simp [he]) d hd rfl
theorem Oq {id n : Nat} {v : kR} {x : kR × kT} (hx : tR id n h v = some x) : ∃ b, h[id]? = some .free ∧ x = (.ptr id 0, h.set id b) ∧ ∀ h2 : kT, h2[id]? = some .free → tR id n h2 v = some (.ptr id 0, h2.set id b) := by
 unfold tR at hx
 simp only [] at hx
 split at hx
 ·rename_i hf
  split at hx
  ·rename_i hc
   cases hx
   refine ⟨_, hf, rfl, fun h2 h3 => ?_⟩
   unfold tR
   simp only [h3]
   rw [if_pos hc]
  ·cases hx
 ·cases hx
theorem Dr {id len sz : Nat} {zero : List kR} {parts : List (Nat × kR)} {x : kR × kT} (hx : pQ id len sz zero parts h = some x) :
  ∃ b, h[id]? = some .free ∧ x = (x.1, h.set id b) ∧ ∀ h2 : kT, h2[id]? = some .free → pQ id len sz zero parts h2 = some (x.1, h2.set id b) := by
 unfold pQ at hx
 split at hx
 ·rename_i rows hf hr
  cases hx
  refine ⟨_, hf, rfl, fun h2 h3 => ?_⟩
  unfold pQ
  simp only [h3, hr]
 ·cases hx
theorem FP {id : Nat} (he : qL o = true) (hb : evalOp cx o (some id) ρ h kv kp = some r) :
  ∃ v b, h[id]? = some .free ∧ kv v (h.set id b) = some r ∧ ∀ (h2 : kT) (kv2 kp2 : kR → kT → Option R), h2[id]? = some .free → evalOp cx o (some id) ρ h2 kv2 kp2 = kv2 v (h2.set id b) := by
 have K1 : ∀ {n : Nat} {v : kR}, lE (tR id n h v) kv = some r → ∃ u b, h[id]? = some .free ∧ kv u (h.set id b) = some r ∧ ∀ (h2 : kT) (kv2 : kR → kT → Option R), h2[id]? = some .free → lE (tR id n h2 v) kv2 = kv2 u (h2.set id b) := by
  intro n v hv
  unfold lE at hv
  obtain ⟨x, hx, hk⟩ := Option.bind_eq_some_iff.1 hv
  obtain ⟨b, h1, rfl, h3⟩ := Oq hx
  exact ⟨_, b, h1, hk, fun h2 kv2 hf => by rw [h3 h2 hf]; rfl⟩
 have K2 : ∀ {len sz : Nat} {zero : List kR} {parts : List (Nat × kR)}, lE (pQ id len sz zero parts h) kv = some r →
   ∃ u b, h[id]? = some .free ∧ kv u (h.set id b) = some r ∧ ∀ (h2 : kT) (kv2 : kR → kT → Option R), h2[id]? = some .free → lE (pQ id len sz zero parts h2) kv2 = kv2 u (h2.set id b) := by
  intro len sz zero parts hv
  unfold lE at hv
  obtain ⟨x, hx, hk⟩ := Option.bind_eq_some_iff.1 hv
  obtain ⟨b, h1, h2, h3⟩ := Dr hx
  refine ⟨x.1, b, h1, ?_, fun h2 kv2 hf => by rw [h3 h2 hf]; rfl⟩
  rw [h2] at hk; exact hk
 unfold qL at he
 simp only [Bool.and_eq_true] at he
 have he := he.2
 unfold evalOp nH at hb ⊢
 split at he
 ·rename_i t ho
  simp only [ho] at hb ⊢
  split at hb
  ·rename_i n z hn hz
   obtain ⟨u, b, e1, e2, e3⟩ := K1 hb
   refine ⟨u, b, e1, e2, fun h2 kv2 kp2 hf => ?_⟩
   exact e3 h2 kv2 hf
  ·cases hb
 ·rename_i t x ho
  simp only [ho] at hb ⊢
  split at hb
  ·rename_i n hn
   obtain ⟨u, b, e1, e2, e3⟩ := K1 hb
   refine ⟨u, b, e1, e2, fun h2 kv2 kp2 hf => ?_⟩
   exact e3 h2 kv2 hf
  ·cases hb
 ·rename_i t len parts ho
  simp only [ho] at hb ⊢
  split at hb
  ·rename_i e hel
   split at hb
   ·rename_i n z hn hz
    cases hj : (n == 0 || z.oI || decide (len * n > 16777216)) with
    | true => rw [hj] at hb; cases hb
    | false =>
     rw [hj] at hb
     obtain ⟨u, b, e1, e2, e3⟩ := K2 hb
     refine ⟨u, b, e1, e2, fun h2 kv2 kp2 hf => ?_⟩
     exact e3 h2 kv2 hf
   ·cases hb
  ·cases hb
 ·cases he
theorem HF (he : qL o = true) : o9 o = true := by
 unfold qL at he
 simp only [Bool.and_eq_true] at he
 have he := he.2
 split at he
 ·rename_i ho; simp [o9, ho]
 ·rename_i ho; simp [o9, ho]
 ·rename_i ho; simp [o9, ho]
 ·cases he
theorem Kx (he : tX o = true) : o9 o = true := by
 unfold tX at he
 simp only [Bool.and_eq_true] at he
 have he := he.2
 split at he
 ·rename_i c ho
  simp only [o9, ho]
  cases hc : c.callee with
  | value f => rfl
  | _ => simp [hc] at he
 ·cases he
theorem Mg {m : Nat} (hb : uZ cx o m ids ρ h kv = some r) :
  ∃ v t, t.length = m ∧ kv v (t ++ h.drop m) = some r ∧ ∀ (h2 : kT) (kv2 : kR → kT → Option R), h2.take m = h.take m → uZ cx o m ids ρ h2 kv2 = kv2 v (t ++ h2.drop m) := by
 unfold uZ at hb ⊢
 cases hs : (h.take m).all (vY m) with
 | false => rw [hs] at hb; cases hb
 | true =>
  rw [hs] at hb
  simp only [cond_true] at hb
  obtain ⟨r0, h1, h2⟩ := Option.bind_eq_some_iff.1 hb
  unfold OG at h2
  split at h2
  ·rename_i v t
   cases hl : t.length == m with
   | false => rw [hl] at h2; cases h2
   | true =>
    rw [hl] at h2
    refine ⟨v, t, by simpa using hl, h2, fun h3 kv2 he => ?_⟩
    rw [he, hs, h1]
    simp only [cond_true, Option.bind_some, OG, hl]
  ·cases h2
theorem s8 {m : Nat} {it : Item} (hag : ∀ t ∈ x4 ops it.o, ρ'.getD t .junk = ρ.getD t .junk) : nR cx ops m it ids ρ' h kv kp = nR cx ops m it ids ρ h kv kp := by
 have hop : ∀ t ∈ uT it.o, ρ'.getD t .junk = ρ.getD t .junk := fun t ht => hag t (w9.2 (.inl ht))
 have hsh : ∀ t ∈ uT it.o, (ρ'.map (A2 m)).getD t .junk = (ρ.map (A2 m)).getD t .junk := by
  intro t ht
  have h0 : ∀ l : List kR, (l.map (A2 m)).getD t .junk = A2 m (l.getD t .junk) := by
   intro l
   rw [List.getD_eq_getElem?_getD, List.getD_eq_getElem?_getD, List.getElem?_map]
   cases l[t]? <;> rfl
  rw [h0, h0, hop t ht]
 unfold nR
 cases it.rsv with
 | some j => simp only []; rw [CV hop]
 | none =>
  simp only []
  rw [FI hag]
  cases it.hid with
  | false => rfl
  | true =>
   simp only [cond_true, uZ]
   rw [yN hsh]
def Qe (it : Item) (m : Nat) (ids : List Nat) (h h' : kT) : Prop :=
 (o9 it.o = false → h' = h) ∧ (∀ id ∈ ids, pK h id → h'[id]? = h[id]?) ∧
 (∀ j, it.rsv = some j → ∃ b, h[m + j]? = some .free ∧ h' = h.set (m + j) b) ∧
 (it.rsv = none → it.hid = true → ∃ t, t.length = m ∧ h' = t ++ h.drop m)
theorem z8 (hag : ∀ t ∈ uT o, ρ'.getD t .junk = ρ.getD t .junk) : seenAt cx.A o ρ' = seenAt cx.A o ρ := by
 unfold seenAt
 cases hr : r5 o with
 | none => rfl
 | some x =>
  refine FA hag ?_
  unfold r5 at hr
  split at hr
  ·rename_i ho; cases hr; simp [ho, Op.operands]
  ·rename_i ho; cases hr; simp [ho, Op.operands]
  ·cases hr
theorem UR (hag : ∀ t ∈ uT o, ρ'.getD t .junk = ρ.getD t .junk) : tZ cx o ρ' = tZ cx o ρ := by
 have := z8 (cx := cx) hag
 unfold tZ seenAt at *
 cases hr : r5 o with
 | none => rfl
 | some x => simp only [hr] at this; simp [this]
theorem M0 {id : Nat} (hf : h[id]? = some .free) : ¬ pK h id := by
 rintro (⟨_, h1⟩ | ⟨_, h1⟩ | ⟨_, _, _, h1⟩) <;> rw [hf] at h1 <;> cases h1
theorem KX (hrb : cx.rb = false) (he : o9 o = false) (hr : r5 o = none) (hb : qY cx ops o [] ρ h kv kp = some r) :
  ∃ v, kv v h = some r ∧ ∀ (h2 : kT) (kv2 kp2 : kR → kT → Option R), qY cx ops o [] ρ h2 kv2 kp2 = kv2 v h2 := by
 obtain ⟨v, h1, h2⟩ := Cg hrb he hb
 exact ⟨v, h1, fun h3 kv2 kp2 => h2 h3 kv2 kp2 fun id hid => by simp [tZ, hr] at hid⟩
theorem Sz (hrb : cx.rb = false) {m : Nat} {it : Item} {T : kT → kT}
  (hT : (it.rsv ≠ none) ∨ (it.rsv = none ∧ it.hid = true ∧ (T h).take m = h.take m ∧ ∀ t : kT, t.length = m → T (t ++ h.drop m) = t ++ (T h).drop m) ∨ (it.rsv = none ∧ it.hid = false ∧ o9 it.o = false ∧ r5 it.o = none))
  (hlocks : o9 it.o = false → ids = [])
  (hset : ∀ j, it.rsv = some j → (T h)[m + j]? = h[m + j]? ∧ ∀ b, T (h.set (m + j) b) = (T h).set (m + j) b)
  (hb : nR cx ops m it ids ρ (T h) kv kp = some r) : nR cx ops m it ids ρ h (fun v h' => kv v (T h')) kp = some r := by
 unfold nR at hb ⊢
 cases hr : it.rsv with
 | some j =>
  simp only [hr] at hb ⊢
  cases hf : qL it.o with
  | false => rw [hf] at hb; cases hb
  | true =>
   rw [hf] at hb
   simp only [cond_true] at hb ⊢
   obtain ⟨v, b, h1, h2, h3⟩ := FP hf hb
   obtain ⟨h4, h5⟩ := hset j hr
   rw [h3 h _ _ (h4 ▸ h1), h5]
   exact h2
 | none =>
  simp only [hr] at hb ⊢
  rcases hT with hT | ⟨_, hh, ht, hd⟩ | ⟨_, hh, he, hrd⟩
  ·exact absurd hr hT
  ·rw [hh] at hb ⊢
   simp only [cond_true] at hb ⊢
   cases hf : tX it.o with
   | false => rw [hf] at hb; cases hb
   | true =>
    rw [hf] at hb
    simp only [cond_true] at hb ⊢
    obtain ⟨v, t, h1, h2, h3⟩ := Mg hb
    rw [h3 h _ ht.symm, hd t h1]
    exact h2
  ·rw [hh] at hb ⊢
   simp only [cond_false] at hb ⊢
   rw [hlocks he] at hb ⊢
   obtain ⟨v, h1, h2⟩ := KX hrb he hrd hb
   rw [h2]
   exact h1
theorem move (hrb : cx.rb = false) {m : Nat} {k : List kR → kT → Option R} (it : Item) (post : List Item) (hil : o9 it.o = false → it.locks = []) (hie : it.rsv ≠ none ∨ it.hid = true → o9 it.o = true) : ∀ (pre : List Item) (seen ρ : List kR) (h : kT),
  (∀ p ∈ pre, indep ops p it = true ∧ p.i ≠ it.i ∧ p.i < seen.length) → (pre.map (·.i)).Nodup →
  nX cx ops m (pre ++ it :: post) seen ρ h k kp = some r →
  ∃ ids kv, nR cx ops m it ids ρ h kv kp = some r ∧ (∀ j ∈ it.locks, (∀ p ∈ pre, p.i ≠ j) → ∀ id, wM (seen.getD j .junk) = some id → id ∈ ids) ∧ (o9 it.o = false → ids = []) ∧
   ∀ v h', Qe it m ids h h' → kv v h' = some r → nX cx ops m (pre ++ post) (seen.set it.i (seenAt cx.A it.o ρ)) (pG ρ it.o.dst v) h' k kp = some r := by
 intro pre
 induction pre with
 | nil =>
  intro seen ρ h _ _ hb
  simp only [List.nil_append, nX, uQ] at hb
  refine ⟨_, _, hb, fun j hj _ id hid => ?_, fun he => by simp [mS, hil he], fun v h' _ hk => hk⟩
  exact List.mem_filterMap.2 ⟨j, hj, hid⟩
 | cons p pre ih =>
  intro seen ρ h hpre hnd hb
  obtain ⟨hind, hne, hlt⟩ := hpre p (by simp)
  have hpl : p.rsv ≠ none ∨ p.locks = [] := by
   cases hr : p.rsv with
   | some j => exact .inl (by simp)
   | none =>
    refine .inr ?_
    cases hir : it.rsv <;> cases hh : p.hid <;> simp [indep, hr, hir, hh] at hind
    ·exact hind.2.1.2
    ·exact hind.2.1
    ·exact hind.2.2
    ·exact hind.2
  have hap : IN ops p.o it.o = true := by simp only [indep, Bool.and_eq_true] at hind; exact hind.1
  have hind2 := hind
  simp only [indep, hap, Bool.true_and] at hind2
  obtain ⟨ha1, ha2, ha3⟩ := Kt hap
  simp only [List.map_cons, List.nodup_cons] at hnd
  have agI : ∀ (vp : kR), ∀ t ∈ x4 ops it.o, (pG ρ p.o.dst vp).getD t .junk = ρ.getD t .junk := fun vp t ht => C1 (ha1 t ht)
  have agO : ∀ (vp : kR), ∀ t ∈ uT it.o, (pG ρ p.o.dst vp).getD t .junk = ρ.getD t .junk := fun vp t ht => agI vp t (w9.2 (.inl ht))
  have agP : ∀ (v : kR), ∀ t ∈ x4 ops p.o, (pG ρ it.o.dst v).getD t .junk = ρ.getD t .junk := fun v t ht => C1 (ha2 t ht)
  have agPO : ∀ (v : kR), ∀ t ∈ uT p.o, (pG ρ it.o.dst v).getD t .junk = ρ.getD t .junk := fun v t ht => agP v t (w9.2 (.inl ht))
  have main : ∀ (idsP : List Nat) (vp : kR) (T : kT → kT), (p.rsv ≠ none ∨ (p.locks = [] ∧ idsP = [])) →
    nX cx ops m (pre ++ it :: post) (seen.set p.i (seenAt cx.A p.o ρ)) (pG ρ p.o.dst vp) (T h) k kp = some r →
    (∀ ids kv, (o9 it.o = false → ids = []) → (∀ j ∈ it.locks, (∀ q ∈ pre, q.i ≠ j) → ∀ id, wM ((seen.set p.i (seenAt cx.A p.o ρ)).getD j .junk) = some id → id ∈ ids) →
     nR cx ops m it ids ρ (T h) kv kp = some r → nR cx ops m it ids ρ h (fun v h' => kv v (T h')) kp = some r ∧
     ∀ v h', Qe it m ids h h' → Qe it m ids (T h) (T h') ∧ ∀ kv2, nR cx ops m p (mS p.locks (seen.set it.i (seenAt cx.A it.o ρ))) (pG ρ it.o.dst v) h' kv2 kp = kv2 vp (T h')) →
    ∃ ids kv, nR cx ops m it ids ρ h kv kp = some r ∧ (∀ j ∈ it.locks, (∀ q ∈ p :: pre, q.i ≠ j) → ∀ id, wM (seen.getD j .junk) = some id → id ∈ ids) ∧ (o9 it.o = false → ids = []) ∧
     ∀ v h', Qe it m ids h h' → kv v h' = some r → nX cx ops m (p :: pre ++ post) (seen.set it.i (seenAt cx.A it.o ρ)) (pG ρ it.o.dst v) h' k kp = some r := by
   intro idsP vp T _ hnext hrun
   obtain ⟨ids, kv, e1, e2, e3, e4⟩ := ih _ _ _ (fun q hq => by
    have := hpre q (by simp [hq])
    exact ⟨this.1, this.2.1, by simpa using this.2.2⟩) hnd.2 hnext
   rw [s8 (agI vp)] at e1
   obtain ⟨r1, r2⟩ := hrun ids kv e3 e2 e1
   refine ⟨ids, _, r1, fun j hj hno id hid => ?_, e3, fun v h' hkeep hk => ?_⟩
   ·refine e2 j hj (fun q hq => hno q (by simp [hq])) id ?_
    have : p.i ≠ j := hno p (by simp)
    simpa [List.getD_eq_getElem?_getD, List.getElem?_set, this] using hid
   ·obtain ⟨k1, k2⟩ := r2 v h' hkeep
    have e5 := e4 v (T h') k1 hk
    simp only [List.cons_append, nX, uQ]
    rw [k2]
    rw [z8 (agPO v), JF (ρ := ρ) (x := it.o.dst) (y := p.o.dst) (fun d h1 h2 => ha3 d h2 h1), List.set_comm _ _ (Ne.symm hne), ← z8 (agO vp)]
    exact e5
  simp only [List.cons_append, nX, uQ] at hb
  cases hpr : p.rsv with
  | some a =>
   have hb' := hb
   unfold nR at hb'
   simp only [hpr] at hb'
   cases hf : qL p.o with
   | false => rw [hf] at hb'; cases hb'
   | true =>
    rw [hf] at hb'
    simp only [cond_true] at hb'
    obtain ⟨vp, b, f1, f2, f3⟩ := FP hf hb'
    have hlen : m + a < h.length := (List.getElem?_eq_some_iff.1 f1).1
    have tk : ∀ x : kT, (x.set (m + a) b).take m = x.take m := fun x => List.take_set_of_le (by omega)
    have ts : ∀ t x : kT, t.length = m → (t ++ x.drop m).set (m + a) b = t ++ (x.set (m + a) b).drop m := by
     intro t x ht
     rw [List.set_append_right _ _ (by omega), List.drop_set, if_neg (by omega), ht]
    refine main [] vp (fun x => x.set (m + a) b) (.inl (by simp [hpr])) f2 fun ids kv he hl hrun => ⟨?_, fun v h' hk => ⟨?_, fun kv2 => ?_⟩⟩
    ·refine Sz hrb ?_ he (fun j hj => ?_) hrun
     ·cases hir : it.rsv with
      | some j => exact .inl (by simp)
      | none =>
       refine .inr ?_
       simp only [hpr, hir] at hind2
       cases hh : it.hid with
       | true => exact .inl ⟨rfl, rfl, tk h, fun t ht => ts t h ht⟩
       | false =>
        simp [hh] at hind2
        exact .inr ⟨rfl, rfl, hind2.1, hind2.2⟩
     ·simp only [hpr, hj, bne_iff_ne, ne_eq] at hind2
      exact ⟨List.getElem?_set_ne (by omega), fun b' => List.set_comm _ _ (by omega)⟩
    ·obtain ⟨k1, k2, k3, k4⟩ := hk
     refine ⟨fun he => by rw [k1 he], fun id hid hbl => ?_, fun j hj => ?_, fun hr hh => ?_⟩
     ·by_cases hia : m + a = id
      ·subst hia
       by_cases h2 : m + a < h'.length
       ·simp [List.getElem?_set, hlen, h2]
       ·exfalso
        cases hir : it.rsv with
        | some j => obtain ⟨b', _, rfl⟩ := k3 j hir; simp at h2; omega
        | none =>
         cases hh : it.hid with
         | true => obtain ⟨t, ht, rfl⟩ := k4 hir hh; simp at h2; omega
         | false =>
          simp only [hpr, hir, hh] at hind2
          simp at hind2
          rw [k1 hind2.1] at h2; exact h2 hlen
      ·rw [List.getElem?_set_ne hia, List.getElem?_set_ne hia]
       refine k2 id hid ?_
       unfold pK at hbl ⊢
       rwa [List.getElem?_set_ne hia] at hbl
     ·obtain ⟨b', f4, rfl⟩ := k3 j hj
      simp only [hpr, hj, bne_iff_ne, ne_eq] at hind2
      exact ⟨b', by rw [List.getElem?_set_ne (by omega)]; exact f4, List.set_comm _ _ (by omega)⟩
     ·obtain ⟨t, ht, rfl⟩ := k4 hr hh
      exact ⟨t, ht, ts t h ht⟩
    ·have hfree : h'[m + a]? = some .free := by
      obtain ⟨k1, k2, k3, k4⟩ := hk
      cases hir : it.rsv with
      | some j =>
       obtain ⟨b', f4, rfl⟩ := k3 j hir
       simp only [hpr, hir, bne_iff_ne, ne_eq] at hind2
       rw [List.getElem?_set_ne (by omega)]; exact f1
      | none =>
       cases hh : it.hid with
       | true =>
        obtain ⟨t, ht, rfl⟩ := k4 hir hh
        rw [List.getElem?_append_right (by omega), List.getElem?_drop, ht]
        rw [show m + (m + a - m) = m + a by omega]; exact f1
       | false =>
        simp only [hpr, hir, hh] at hind2
        simp at hind2
        rw [k1 hind2.1]; exact f1
     rw [s8 (agP v)]
     unfold nR
     simp only [hpr, hf, cond_true]
     exact f3 h' _ _ hfree
  | none =>
   have hlk : p.locks = [] := hpl.resolve_left (by simp [hpr])
   cases hph : p.hid with
   | true =>
    have hb' := hb
    unfold nR at hb'
    simp only [hpr, hph, cond_true] at hb'
    cases hf : tX p.o with
    | false => rw [hf] at hb'; cases hb'
    | true =>
     rw [hf] at hb'
     simp only [cond_true, hlk, mS, List.filterMap_nil] at hb'
     obtain ⟨vp, t, f1, f2, f3⟩ := Mg hb'
     have hkind : (∃ j, it.rsv = some j) ∨ (it.rsv = none ∧ it.hid = false ∧ o9 it.o = false ∧ r5 it.o = none) := by
      cases hir : it.rsv with
      | some j => exact .inl ⟨j, rfl⟩
      | none =>
       simp only [hpr, hir, hph] at hind2
       simp at hind2
       exact .inr ⟨rfl, hind2.2.1, hind2.2.2.1, hind2.2.2.2⟩
     refine main [] vp (fun x => t ++ x.drop m) (.inr ⟨hlk, rfl⟩) f2 fun ids kv he hl hrun => ⟨?_, fun v h' hk => ⟨?_, fun kv2 => ?_⟩⟩
     ·refine Sz hrb ?_ he (fun j hj => ⟨?_, fun b' => ?_⟩) hrun
      ·rcases hkind with ⟨j, hj⟩ | hk
       ·exact .inl (by simp [hj])
       ·exact .inr (.inr hk)
      ·rw [List.getElem?_append_right (by omega), List.getElem?_drop, f1, show m + (m + j - m) = m + j by omega]
      ·rw [List.set_append_right _ _ (by omega), List.drop_set, if_neg (by omega), f1]
     ·obtain ⟨k1, k2, k3, k4⟩ := hk
      rcases hkind with ⟨j, hj⟩ | ⟨g1, g2, g3, g4⟩
      ·obtain ⟨b', f4, rfl⟩ := k3 j hj
       have hie' := hie (.inl (by simp [hj]))
       have hlen : m + j < h.length := (List.getElem?_eq_some_iff.1 f4).1
       have e1 : t ++ (h.set (m + j) b').drop m = (t ++ h.drop m).set (m + j) b' := by
        rw [List.set_append_right _ _ (by omega), List.drop_set, if_neg (by omega), f1]
       refine ⟨fun he => (by rw [hie'] at he; cases he), fun id hid hbl => ?_, fun j' hj' => ?_, fun hr => (by rw [hj] at hr; cases hr)⟩
       ·rw [e1]
        refine List.getElem?_set_ne fun hji => ?_
        subst hji
        refine M0 ?_ hbl
        rw [List.getElem?_append_right (by omega), List.getElem?_drop, f1, show m + (m + j - m) = m + j by omega]
        exact f4
       ·rw [hj] at hj'; cases hj'
        refine ⟨b', ?_, e1⟩
        rw [List.getElem?_append_right (by omega), List.getElem?_drop, f1, show m + (m + j - m) = m + j by omega]
        exact f4
      ·have := k1 g3
       subst this
       exact ⟨fun _ => rfl, fun _ _ _ => rfl, fun j hj => (by rw [g1] at hj; cases hj), fun _ hh => (by rw [g2] at hh; cases hh)⟩
     ·have htake : h'.take m = h.take m := by
       obtain ⟨k1, k2, k3, k4⟩ := hk
       rcases hkind with ⟨j, hj⟩ | ⟨g1, g2, g3, g4⟩
       ·obtain ⟨b', f4, rfl⟩ := k3 j hj
        exact List.take_set_of_le (by omega)
       ·rw [k1 g3]
      rw [s8 (agP v)]
      unfold nR
      simp only [hpr, hph, hf, cond_true, hlk, mS, List.filterMap_nil]
      exact f3 h' _ htake
   | false =>
    have hpe : o9 p.o = false := by
     cases hir : it.rsv <;> simp [hpr, hir, hph] at hind2
     ·exact hind2.1.1
     ·exact hind2.1
    have hb' := hb
    unfold nR at hb'
    simp only [hpr, hph, cond_false, hlk, mS, List.filterMap_nil] at hb'
    obtain ⟨vp, hnext, hlight⟩ := Cg hrb hpe hb'
    refine main [] vp id (.inr ⟨hlk, rfl⟩) hnext fun ids kv he hl hrun => ⟨hrun, fun v h' hk => ⟨hk, fun kv2 => ?_⟩⟩
    rw [s8 (agP v)]
    unfold nR
    simp only [hpr, hph, cond_false, hlk, mS, List.filterMap_nil]
    refine hlight h' _ _ fun id hid hblk => ?_
    obtain ⟨k1, k2, k3, k4⟩ := hk
    cases hir : it.rsv with
    | some j =>
     obtain ⟨b', f4, rfl⟩ := k3 j hir
     refine List.getElem?_set_ne fun hji => ?_
     subst hji
     exact M0 f4 hblk
    | none =>
     cases hie2 : o9 it.o with
     | false => rw [k1 hie2]
     | true =>
      refine k2 id ?_ hblk
      have hrd : (r5 p.o).isSome = true := by
       unfold tZ at hid
       cases hr : r5 p.o with
       | none => simp [hr] at hid
       | some x => rfl
      simp only [hpr, hir, hph, cond_false, Bool.and_eq_true, Bool.or_eq_true] at hind2
      have hmem : p.i ∈ it.locks := by
       rcases hind2.2 with (h1 | h1) | h1
       ·simp [hrd] at h1
       ·simp [hie2] at h1
       ·simpa using h1
      refine hl p.i hmem (fun q hq he => hnd.1 (List.mem_map.2 ⟨q, hq, he⟩)) id ?_
      have : (seen.set p.i (seenAt cx.A p.o ρ)).getD p.i .junk = seenAt cx.A p.o ρ := by simp [List.getD_eq_getElem?_getD, hlt]
      rw [this]
      unfold tZ at hid
      unfold seenAt
      cases hr : r5 p.o with
      | none => simp [hr] at hid
      | some x => simpa [hr] using hid
end
end Hk


namespace Hk
open Go Go.RowKit
structure Sub (h h' : kT) : Prop where
 live : ∀ id, Hk.live h id → Hk.live h' id
 front : ∀ (id n sz : Nat), h[id]? = some (.front n sz) → h'[id]? = some (.front n sz)
 nf : ∀ id, sG h id → sG h' id
theorem lM.sub {G : Gh} {h h' : kT} (s : Sub h h') {v : kR} {V : Value} (r : lM G h v V) : lM G h' v V := by
 induction r with
 | p v V hp => exact .p v V hp
 | agg cs C hl _ ih => exact .agg cs C hl ih
 | tuple cs C hl _ ih => exact .tuple cs C hl ih
 | nil => exact .nil
 | own rows id n sz V hp hf hn hr hc => exact .own rows id n sz V hp (s.front _ _ _ hf) hn hr hc
 | ownv id V hp hb => exact .ownv id V hp (s.nf _ hb)
 | vslice id tot off len sz b cap hl ht hc hv => exact .vslice id tot off len sz b cap (s.nf _ hl) ht hc hv
 | vptr id tot off b hl ht hv => exact .vptr id tot off b (s.nf _ hl) ht hv
 | ptr id off hl => exact .ptr id off (s.live _ hl)
 | mslice id off len sz cap hl hc => exact .mslice id off len sz cap (s.live _ hl) hc
 | mslice0 id off sz cap a => exact .mslice0 id off sz cap a
 | map id hl => exact .map id (s.live _ hl)
 | func f first cap F C hlf hlc _ _ ihf ihc => exact .func f first cap F C hlf hlc ihf ihc
 | iface t v V _ ih => exact .iface t v V ih
theorem aaP {h : kT} {id : Nat} : pK h id ↔ ∃ b, h[id]? = some b ∧ ((∃ cs, b = .cells cs) ∨ (∃ es, b = .map es) ∨ ∃ tot sz cs, b = .vec tot sz cs) := by
 constructor
 ·rintro (⟨cs, hc⟩ | ⟨es, hc⟩ | ⟨t, s, cs, hc⟩)
  ·exact ⟨_, hc, .inl ⟨_, rfl⟩⟩
  ·exact ⟨_, hc, .inr (.inl ⟨_, rfl⟩)⟩
  ·exact ⟨_, hc, .inr (.inr ⟨_, _, _, rfl⟩)⟩
 ·rintro ⟨b, hb, ⟨cs, rfl⟩ | ⟨es, rfl⟩ | ⟨t, s, cs, rfl⟩⟩
  ·exact .inl ⟨_, hb⟩
  ·exact .inr (.inl ⟨_, hb⟩)
  ·exact .inr (.inr ⟨_, _, _, hb⟩)
theorem pK.nf {h : kT} {id : Nat} (hb : pK h id) : ∃ b, h[id]? = some b ∧ b ≠ .free ∧ ∀ n sz, b ≠ .front n sz := by
 rcases hb with ⟨cs, hc⟩ | ⟨es, hc⟩ | ⟨t, s, cs, hc⟩ <;> exact ⟨_, hc, by simp, by simp⟩
theorem OH (h : kT) (a id : Nat) : (pK h a ∧ a = id ∧ (sW h a)[id]? = some .gone) ∨ (¬ (pK h a ∧ a = id) ∧ (sW h a)[id]? = h[id]?) := by
 unfold sW
 cases hb : h[a]? with
 | none => exact .inr ⟨fun hh => (by obtain ⟨⟨_, h1⟩ | ⟨_, h1⟩ | ⟨_, _, _, h1⟩, _⟩ := hh <;> rw [hb] at h1 <;> cases h1), rfl⟩
 | some b =>
  have hlt : a < h.length := (List.getElem?_eq_some_iff.1 hb).1
  cases b with
  | cells cs =>
   by_cases ha : a = id
   ·subst ha; exact .inl ⟨.inl ⟨_, hb⟩, rfl, by simp [hlt]⟩
   ·exact .inr ⟨fun h => ha h.2, by simp [List.getElem?_set, ha]⟩
  | map es =>
   by_cases ha : a = id
   ·subst ha; exact .inl ⟨.inr (.inl ⟨_, hb⟩), rfl, by simp [hlt]⟩
   ·exact .inr ⟨fun h => ha h.2, by simp [List.getElem?_set, ha]⟩
  | vec t s cs =>
   by_cases ha : a = id
   ·subst ha; exact .inl ⟨.inr (.inr ⟨_, _, _, hb⟩), rfl, by simp [hlt]⟩
   ·exact .inr ⟨fun h => ha h.2, by simp [List.getElem?_set, ha]⟩
  | _ => exact .inr ⟨fun hh => (by obtain ⟨⟨_, h1⟩ | ⟨_, h1⟩ | ⟨_, _, _, h1⟩, _⟩ := hh <;> rw [hb] at h1 <;> cases h1), rfl⟩
theorem wY (ids : List Nat) : ∀ (h : kT) (id : Nat), (id ∈ ids ∧ pK h id ∧ (tN ids h)[id]? = some .gone) ∨ (¬ (id ∈ ids ∧ pK h id) ∧ (tN ids h)[id]? = h[id]?) := by
 induction ids with
 | nil => intro h id; exact .inr ⟨by simp, rfl⟩
 | cons a ids ih =>
  intro h id
  have hc : (tN (a :: ids) h) = tN ids (sW h a) := rfl
  rw [hc]
  rcases OH h a id with ⟨h1, rfl, h3⟩ | ⟨h1, h2⟩
  ·rcases ih (sW h a) a with ⟨h4, h5, h6⟩ | ⟨h4, h5⟩
   ·exact .inl ⟨by simp, h1, h6⟩
   ·exact .inl ⟨by simp, h1, h5.trans h3⟩
  ·have hb : pK (sW h a) id ↔ pK h id := by unfold pK; rw [h2]
   rcases ih (sW h a) id with ⟨h4, h5, h6⟩ | ⟨h4, h5⟩
   ·exact .inl ⟨by simp [h4], hb.1 h5, h6⟩
   ·refine .inr ⟨fun hh => ?_, h5.trans h2⟩
    rcases List.mem_cons.1 hh.1 with he | he
    ·exact h1 ⟨he ▸ hh.2, he.symm⟩
    ·exact h4 ⟨he, hb.2 hh.2⟩
theorem Lz (h r : kT) (a id : Nat) (hlt : pK h a → a < r.length) : (pK h a ∧ a = id ∧ (qE h r a)[id]? = h[id]?) ∨ (¬ (pK h a ∧ a = id) ∧ (qE h r a)[id]? = r[id]?) := by
 unfold qE
 cases hb : h[a]? with
 | none => exact .inr ⟨fun hh => (by obtain ⟨⟨_, h1⟩ | ⟨_, h1⟩ | ⟨_, _, _, h1⟩, _⟩ := hh <;> rw [hb] at h1 <;> cases h1), rfl⟩
 | some b =>
  cases b with
  | cells cs =>
   have := hlt (.inl ⟨_, hb⟩)
   by_cases ha : a = id
   ·subst ha; exact .inl ⟨.inl ⟨_, hb⟩, rfl, by simp [this, hb]⟩
   ·exact .inr ⟨fun h => ha h.2, by simp [List.getElem?_set, ha]⟩
  | map es =>
   have := hlt (.inr (.inl ⟨_, hb⟩))
   by_cases ha : a = id
   ·subst ha; exact .inl ⟨.inr (.inl ⟨_, hb⟩), rfl, by simp [this, hb]⟩
   ·exact .inr ⟨fun h => ha h.2, by simp [List.getElem?_set, ha]⟩
  | vec t s cs =>
   have := hlt (.inr (.inr ⟨_, _, _, hb⟩))
   by_cases ha : a = id
   ·subst ha; exact .inl ⟨.inr (.inr ⟨_, _, _, hb⟩), rfl, by simp [this, hb]⟩
   ·exact .inr ⟨fun h => ha h.2, by simp [List.getElem?_set, ha]⟩
  | _ => exact .inr ⟨fun hh => (by obtain ⟨⟨_, h1⟩ | ⟨_, h1⟩ | ⟨_, _, _, h1⟩, _⟩ := hh <;> rw [hb] at h1 <;> cases h1), rfl⟩
theorem GM (h r : kT) (a : Nat) : (qE h r a).length = r.length := by
 unfold qE; split <;> simp
theorem Ns (h : kT) (ids : List Nat) : ∀ (r : kT) (id : Nat), (∀ a ∈ ids, pK h a → a < r.length) →
  (id ∈ ids ∧ pK h id ∧ (nT ids h r)[id]? = h[id]?) ∨ (¬ (id ∈ ids ∧ pK h id) ∧ (nT ids h r)[id]? = r[id]?) := by
 induction ids with
 | nil => intro r id _; exact .inr ⟨by simp, rfl⟩
 | cons a ids ih =>
  intro r id hlt
  have hc : nT (a :: ids) h r = nT ids h (qE h r a) := rfl
  rw [hc]
  have ih' := ih (qE h r a) id fun b hb hbl => by rw [GM]; exact hlt b (by simp [hb]) hbl
  rcases Lz h r a id (hlt a (by simp)) with ⟨h1, rfl, h3⟩ | ⟨h1, h2⟩
  ·rcases ih' with ⟨h4, h5, h6⟩ | ⟨h4, h5⟩
   ·exact .inl ⟨by simp, h1, h6⟩
   ·exact .inl ⟨by simp, h1, h5.trans h3⟩
  ·rcases ih' with ⟨h4, h5, h6⟩ | ⟨h4, h5⟩
   ·exact .inl ⟨by simp [h4], h5, h6⟩
   ·refine .inr ⟨fun hh => ?_, h5.trans h2⟩
    rcases List.mem_cons.1 hh.1 with he | he
    ·exact h1 ⟨he ▸ hh.2, he.symm⟩
    ·exact h4 ⟨he, hh.2⟩
theorem KO (ids : List Nat) (h : kT) : Sub h (tN ids h) where
 live := fun id ⟨b, h1, h2⟩ => by
  rcases wY ids h id with ⟨_, _, h5⟩ | ⟨_, h5⟩
  ·exact ⟨_, h5, by simp⟩
  ·exact ⟨b, h5.trans h1, h2⟩
 front := fun id n sz hf => by
  rcases wY ids h id with ⟨_, h4, _⟩ | ⟨_, h5⟩
  ·obtain ⟨b, h6, _, h7⟩ := h4.nf; rw [hf] at h6; cases h6; exact absurd rfl (h7 _ _)
  ·exact h5.trans hf
 nf := fun id ⟨b, h1, h2, h3⟩ => by
  rcases wY ids h id with ⟨_, _, h5⟩ | ⟨_, h5⟩
  ·exact ⟨_, h5, by simp, by simp⟩
  ·exact ⟨b, h5.trans h1, h2, h3⟩
theorem tC {G : Gh} {ids : List Nat} {h : kT} {id b : Nat} (ho : owner G (tN ids h) id = some b) : owner G h id = some b ∧ ¬ (id ∈ ids ∧ pK h id) := by
 rcases wY ids h id with ⟨_, _, h5⟩ | ⟨h4, h5⟩
 ·simp [owner, h5] at ho
 ·refine ⟨?_, h4⟩
  unfold owner at *; rw [h5] at ho; exact ho
theorem vS.sub {G : Gh} {h h' : kT} {w : World} {id : Nat} {bl : lW} (s : Sub h h') (b : vS G h w id bl) : vS G h' w id bl := by
 cases bl with
 | cells cs =>
  obtain ⟨C, e, h1, h2, h3, h4⟩ := b
  exact ⟨C, e, h1, h2, h3, fun i v hv => ⟨(h4 i v hv).1, (h4 i v hv).2.sub s⟩⟩
 | map es =>
  obtain ⟨E, c, h1, h2, h3, h4, hst⟩ := b
  refine ⟨E, c, h1, h2, h3, fun i kv hkv => ?_, hst⟩
  obtain ⟨m, h5, h6, h7, h8⟩ := h4 i kv hkv
  exact ⟨m, h5, h6, h7, h8.sub s⟩
 | vec t sz cs =>
  obtain ⟨b', cap, C, e, g1, g2, g3, g4, g5, g6, g7, g8, g9⟩ := b
  exact ⟨b', cap, C, e, g1, g2, g3, g4, g5, g6, g7, g8, fun i v hv => ⟨(g9 i v hv).1, (g9 i v hv).2.sub s⟩⟩
 | _ => exact b
theorem Inv.tN {G : Gh} {h : kT} {w : World} (i : Inv G h w) (ids : List Nat) : Inv G (tN ids h) w where
 ok := i.ok
 mX := fun id bl hb => by
  rcases wY ids h id with ⟨_, _, h5⟩ | ⟨h4, h5⟩
  ·rw [h5] at hb; cases hb; trivial
  ·exact (i.mX id bl (h5.symm.trans hb)).sub (KO ids h)
 inj := fun a b c h1 h2 => i.inj a b c (tC h1).1 (tC h2).1
theorem ad1 {G : Gh} {h : kT} {w : World} {id : Nat} (i : Inv G h w) (hb : pK h id) : ∃ b, owner G h id = some b ∧ b < w.heap.size := by
 have key : ∀ b, owner G h id = some b → ∃ b, owner G h id = some b ∧ b < w.heap.size := fun b hb => ⟨b, hb, i.lt hb⟩
 rcases hb with ⟨cs, hb⟩ | ⟨es, hb⟩ | ⟨t, s, cs, hb⟩
 ·exact key (G.mX id) (by rw [m_ hb]; rfl)
 ·exact key (G.mX id) (by rw [m_ hb]; rfl)
 ·obtain ⟨b, cap, C, e, g1, _⟩ := i.mX id _ hb
  exact key b (by rw [m_ hb]; simp [mT, g1, Value.ownBlock])
theorem Ip {G G' : Gh} {h h' : kT} {w w' : World} {ids : List Nat} (i : Inv G h w) (x : Ext G (Hk.tN ids h) w G' h' w') (i' : Inv G' h' w') :
  Ext G h w G' (nT ids h h') w' ∧ Inv G' (nT ids h h') w' ∧ Sub h' (nT ids h h') ∧ ∀ id ∈ ids, pK h id → (nT ids h h')[id]? = h[id]? := by
 have gone : ∀ id, id ∈ ids → pK h id → h'[id]? = some .gone ∧ G'.mX id = G.mX id ∧ G'.cur id = G.cur id := by
  intro id h1 h2
  rcases wY ids h id with ⟨_, _, h5⟩ | ⟨h4, _⟩
  ·obtain ⟨bl, h6, h7⟩ := x.kinds id _ h5
   cases bl <;> simp_all [Kind]
  ·exact absurd ⟨h1, h2⟩ h4
 have get := fun id => Ns h ids h' id fun a ha hb => (List.getElem?_eq_some_iff.1 (gone a ha hb).1).1
 have sub : Sub h' (nT ids h h') := by
  refine ⟨fun id ⟨b, h1, h2⟩ => ?_, fun id n sz hf => ?_, fun id ⟨b, h1, h2, h3⟩ => ?_⟩
  ·rcases get id with ⟨_, h4, h5⟩ | ⟨_, h5⟩
   ·obtain ⟨b', h6, h7, _⟩ := h4.nf
    exact ⟨b', h5.trans h6, h7⟩
   ·exact ⟨b, h5.trans h1, h2⟩
  ·rcases get id with ⟨h3, h4, _⟩ | ⟨_, h5⟩
   ·rw [(gone id h3 h4).1] at hf; cases hf
   ·exact h5.trans hf
  ·rcases get id with ⟨_, h4, h5⟩ | ⟨_, h5⟩
   ·obtain ⟨b', h6, h7, h8⟩ := h4.nf
    exact ⟨b', h5.trans h6, h7, h8⟩
   ·exact ⟨b, h5.trans h1, h2, h3⟩
 have own : ∀ id b, owner G' (nT ids h h') id = some b → (id ∈ ids ∧ pK h id ∧ owner G h id = some b) ∨ (¬ (id ∈ ids ∧ pK h id) ∧ owner G' h' id = some b) := by
  intro id b ho
  rcases get id with ⟨h3, h4, h5⟩ | ⟨h4, h5⟩
  ·obtain ⟨_, e1, e2⟩ := gone id h3 h4
   refine .inl ⟨h3, h4, ?_⟩
   unfold owner at ho ⊢
   rwa [h5, e1, e2] at ho
  ·refine .inr ⟨h4, ?_⟩
   unfold owner at *; rw [h5] at ho; exact ho
 have ext : Ext G h w G' (nT ids h h') w' := by
  refine ⟨x.os, x.tape, x.output, x.size, fun b hb hn => x.frame b hb fun id ho => hn id (tC ho).1, x.hmono, fun id b ho hlt => ?_, fun id bl hb => ?_⟩
  ·rcases own id b ho with ⟨_, _, h2⟩ | ⟨_, h2⟩
   ·exact h2
   ·exact (tC (x.own id b h2 hlt)).1
  ·rcases get id with ⟨h3, h4, h5⟩ | ⟨h4, h5⟩
   ·refine ⟨bl, h5.trans hb, ?_⟩
    obtain ⟨_, e1, e2⟩ := gone id h3 h4
    cases bl <;> simp [Kind, e1, e2]
   ·rcases wY ids h id with ⟨h6, h7, _⟩ | ⟨_, h7⟩
    ·exact absurd ⟨h6, h7⟩ h4
    ·obtain ⟨bl', h8, h9⟩ := x.kinds id bl (h7.trans hb)
     exact ⟨bl', h5.trans h8, h9⟩
 refine ⟨ext, ⟨i'.ok, fun id bl hb => ?_, fun a b c h1 h2 => ?_⟩, sub, fun id h1 h2 => ?_⟩
 ·rcases get id with ⟨h3, h4, h5⟩ | ⟨h4, h5⟩
  ·have hb' : h[id]? = some bl := h5.symm.trans hb
   obtain ⟨_, e1, e2⟩ := gone id h3 h4
   refine (i.mX id bl hb').F0 ext.toMono e1 e2 fun b ho => ?_
   refine x.frame b (i.lt (by rw [m_ hb']; exact ho)) fun j hj => ?_
   obtain ⟨h6, h7⟩ := tC hj
   have := i.inj j id _ h6 (by rw [m_ hb']; exact ho)
   subst this
   exact h7 ⟨h3, h4⟩
  ·exact (i'.mX id bl (h5.symm.trans hb)).sub sub
 ·rcases own a c h1 with ⟨_, a2, a3⟩ | ⟨a1, a2⟩ <;> rcases own b _ h2 with ⟨_, b2, b3⟩ | ⟨b1, b2⟩
  ·exact i.inj a b _ a3 b3
  ·exact i.inj a b _ a3 (tC (x.own b _ b2 (i.lt a3))).1
  ·exact i.inj a b _ (tC (x.own a _ a2 (i.lt b3))).1 b3
  ·exact i'.inj a b c a2 b2
 ·rcases get id with ⟨_, _, h5⟩ | ⟨h4, _⟩
  ·exact h5
  ·exact absurd ⟨h1, h2⟩ h4
section
variable {G G' : Gh} {h h' : kT} {w : World} {m : Nat}
structure Left (G : Gh) (h : kT) (G' : Gh) (h' : kT) (m : Nat) : Prop where
 hmono : ∀ b k v, G.H b k = some v → G'.H b k = some v
 mX : G'.mX = G.mX
 cur : G'.cur = G.cur
 live : ∀ id, id < m → Hk.live h id → Hk.live h' id
 front : ∀ (id n sz : Nat), id < m → h[id]? = some (.front n sz) → h'[id]? = some (.front n sz)
 nf : ∀ id, id < m → sG h id → sG h' id
theorem rO (l : Left G h G' h' m) {v : kR} {V : Value} (hs : v.s5 m = true) (r : lM G h v V) : lM G' h' v V := by
 cases r with
 | p v V hp => exact .p v V (hp.mono l.hmono)
 | agg cs C hl hh => simp [kR.s5] at hs
 | tuple cs C hl hh => simp [kR.s5] at hs
 | nil => exact .nil
 | own rows id n sz V hp hf hn hr hc =>
  have hid : id < m := by simpa [kR.s5, uI] using hs
  exact .own rows id n sz V (hp.mono l.hmono) (l.front _ _ _ hid hf) hn hr (by rw [l.cur]; exact hc)
 | ownv id V hp hb =>
  have hid : id < m := by simpa [kR.s5, uI] using hs
  exact .ownv id V (hp.mono l.hmono) (l.nf _ hid hb)
 | vslice id tot off len sz b cap hl ht hc hv =>
  have hid : id < m := by simpa [kR.s5, uI] using hs
  exact .vslice id tot off len sz b cap (l.nf _ hid hl) (by rw [l.cur]; exact ht) hc (by rw [l.cur]; exact hv)
 | vptr id tot off b hl ht hv =>
  have hid : id < m := by simpa [kR.s5, uI] using hs
  exact .vptr id tot off b (l.nf _ hid hl) (by rw [l.cur]; exact ht) (by rw [l.cur]; exact hv)
 | ptr id off hl =>
  have hid : id < m := by simpa [kR.s5, uI] using hs
  rw [← l.mX]; exact .ptr id off (l.live _ hid hl)
 | mslice id off len sz cap hl hc =>
  have hid : id < m := by simpa [kR.s5, uI] using hs
  rw [← l.mX]; exact .mslice id off len sz cap (l.live _ hid hl) hc
 | mslice0 id off sz cap a => exact .mslice0 id off sz cap a
 | map id hl =>
  have hid : id < m := by simpa [kR.s5, uI] using hs
  rw [← l.mX]; exact .map id (l.live _ hid hl)
 | func f first cap F C hlf hlc hf hc =>
  simp only [kR.s5, Bool.and_eq_true, List.isEmpty_iff] at hs
  obtain ⟨rfl, rfl⟩ := hs
  exact .func f [] [] F C hlf hlc (by simp) (by simp)
 | iface t v V hh => simp [kR.s5] at hs
theorem uV (l : Left G h G' h' m) {v : kR} {V : Value} (hs : v.rX m = true) (r : lM G h v V) : lM G' h' v V := by
 cases v with
 | agg cs =>
  obtain ⟨C, rfl, hl, hr⟩ := r.tQ
  simp only [kR.rX, List.all_eq_true] at hs
  exact .agg cs C hl fun i u hu => rO l (hs u (List.mem_of_getElem? hu)) (hr i u hu)
 | iface t v =>
  obtain ⟨W, rfl, hr⟩ := r.Bn
  exact .iface t v W (rO l hs hr)
 | func f first cap =>
  obtain ⟨F, C, rfl, hlf, hlc, hf, hc⟩ := r.CZ
  simp only [kR.rX, Bool.and_eq_true, List.all_eq_true] at hs
  exact .func f first cap F C hlf hlc (fun i u hu => rO l (hs.1 u (List.mem_of_getElem? hu)) (hf i u hu)) (fun i u hu => rO l (hs.2 u (List.mem_of_getElem? hu)) (hc i u hu))
 | _ => exact rO l hs r
theorem Lu {id : Nat} {b : lW} (hb : (h.take m)[id]? = some b) : id < m ∧ h[id]? = some b := by
 rw [List.getElem?_take] at hb
 split at hb
 ·rename_i hlt; exact ⟨hlt, hb⟩
 ·cases hb
theorem tG {id b : Nat} (ho : owner G (h.take m) id = some b) : id < m ∧ owner G h id = some b := by
 obtain ⟨bl, h1, h2⟩ := oZ ho
 obtain ⟨h3, h4⟩ := Lu h1
 exact ⟨h3, by rw [m_ h4]; exact h2⟩
theorem Bp : Left G h G (h.take m) m where
 hmono := fun _ _ _ h => h
 mX := rfl
 cur := rfl
 live := fun id hid ⟨b, h1, h2⟩ => ⟨b, by rw [List.getElem?_take, if_pos hid]; exact h1, h2⟩
 front := fun id n sz hid hf => by rw [List.getElem?_take, if_pos hid]; exact hf
 nf := fun id hid ⟨b, h1, h2⟩ => ⟨b, by rw [List.getElem?_take, if_pos hid]; exact h1, h2⟩
theorem Inv.take (i : Inv G h w) (hs : (h.take m).all (vY m) = true) : Inv G (h.take m) w where
 ok := i.ok
 mX := fun id bl hb => by
  obtain ⟨h1, h2⟩ := Lu hb
  have h3 : vY m bl = true := List.all_eq_true.1 hs bl (List.mem_of_getElem? hb)
  have h4 := i.mX id bl h2
  cases bl with
  | cells cs =>
   simp only [vY, List.all_eq_true] at h3
   obtain ⟨C, e, g1, g2, g3, g4⟩ := h4
   exact ⟨C, e, g1, g2, g3, fun j v hv => ⟨(g4 j v hv).1, uV Bp (h3 v (List.mem_of_getElem? hv)) (g4 j v hv).2⟩⟩
  | map es =>
   simp only [vY, List.all_eq_true] at h3
   obtain ⟨C, e, g1, g2, g3, g4, hst⟩ := h4
   refine ⟨C, e, g1, g2, g3, fun j kv hv => ?_, hst⟩
   obtain ⟨mm, g5, g6, g7, g8⟩ := g4 j kv hv
   exact ⟨mm, g5, g6, g7, uV Bp (h3 kv (List.mem_of_getElem? hv)) g8⟩
  | vec t sz cs =>
   simp only [vY, List.all_eq_true] at h3
   obtain ⟨b', cap, C, e, g1, g2, g3, g4, g5, g6, g7, g8, g9⟩ := h4
   exact ⟨b', cap, C, e, g1, g2, g3, g4, g5, g6, g7, g8, fun j v hv => ⟨(g9 j v hv).1, uV Bp (h3 v (List.mem_of_getElem? hv)) (g9 j v hv).2⟩⟩
  | _ => exact h4
 inj := fun a b c h1 h2 => i.inj a b c (tG h1).2 (tG h2).2
theorem Zz {t : kT} {w' : World} (i : Inv G h w) (x : Ext G (h.take m) w G' t w') (i' : Inv G' t w') (ht : t.length = m) :
  ∃ G2, Ext G h w G2 (t ++ h.drop m) w' ∧ Inv G2 (t ++ h.drop m) w' ∧ BJ G' t G2 (t ++ h.drop m) := by
 let G2 : Gh := { H := G'.H, mX := fun id => if id < m then G'.mX id else G.mX id, cur := fun id => if id < m then G'.cur id else G.cur id }
 have b1 : ∀ id, id < m → G2.mX id = G'.mX id := fun id hid => if_pos hid
 have c1 : ∀ id, id < m → G2.cur id = G'.cur id := fun id hid => if_pos hid
 have b2 : ∀ id, ¬ id < m → G2.mX id = G.mX id := fun id hid => if_neg hid
 have c2 : ∀ id, ¬ id < m → G2.cur id = G.cur id := fun id hid => if_neg hid
 have g1 : ∀ id, id < m → (t ++ h.drop m)[id]? = t[id]? := fun id hid => List.getElem?_append_left (by omega)
 have g2 : ∀ id, ¬ id < m → (t ++ h.drop m)[id]? = h[id]? := fun id hid => by
  rw [List.getElem?_append_right (by omega), List.getElem?_drop, ht, show m + (id - m) = id by omega]
 have kn : ∀ {A B C D : Gh} {id : Nat} {x y : lW}, C.mX id = A.mX id → C.cur id = A.cur id → D.mX id = B.mX id → D.cur id = B.cur id → Kind A B id x y → Kind C D id x y := by
  intro A B C D id x y e1 e2 e3 e4 hk
  cases x <;> cases y <;> simp_all [Kind]
 have own : ∀ id b, owner G2 (t ++ h.drop m) id = some b → (id < m ∧ owner G' t id = some b) ∨ (¬ id < m ∧ owner G h id = some b) := by
  intro id b ho
  by_cases hid : id < m
  ·refine .inl ⟨hid, ?_⟩
   unfold owner at ho ⊢
   rwa [g1 id hid, b1 id hid, c1 id hid] at ho
  ·refine .inr ⟨hid, ?_⟩
   unfold owner at ho ⊢
   rwa [g2 id hid, b2 id hid, c2 id hid] at ho
 have ext : Ext G h w G2 (t ++ h.drop m) w' := by
  refine ⟨x.os, x.tape, x.output, x.size, fun b hb hn => x.frame b hb fun id ho => hn id (tG ho).2, x.hmono, fun id b ho hlt => ?_, fun id bl hb => ?_⟩
  ·rcases own id b ho with ⟨_, h2⟩ | ⟨_, h2⟩
   ·exact (tG (x.own id b h2 hlt)).2
   ·exact h2
  ·by_cases hid : id < m
   ·obtain ⟨bl', h1, h2⟩ := x.kinds id bl (by rw [List.getElem?_take, if_pos hid]; exact hb)
    exact ⟨bl', by rw [g1 id hid]; exact h1, kn rfl rfl (b1 id hid) (c1 id hid) h2⟩
   ·exact ⟨bl, by rw [g2 id hid]; exact hb, kn rfl rfl (b2 id hid) (c2 id hid) (Kind.refl G id bl)⟩
 have mono : BJ G' t G2 (t ++ h.drop m) := ⟨fun _ _ _ h => h, fun id bl hb => by
  have hid : id < m := by rw [← ht]; exact (List.getElem?_eq_some_iff.1 hb).1
  exact ⟨bl, by rw [g1 id hid]; exact hb, kn rfl rfl (b1 id hid) (c1 id hid) (Kind.refl G' id bl)⟩⟩
 refine ⟨G2, ext, ⟨i'.ok, fun id bl hb => ?_, fun a b c ha hb => ?_⟩, mono⟩
 ·by_cases hid : id < m
  ·rw [g1 id hid] at hb
   exact (i'.mX id bl hb).F0 mono (b1 id hid) (c1 id hid) fun b _ => ⟨rfl, fun _ => rfl⟩
  ·rw [g2 id hid] at hb
   refine (i.mX id bl hb).F0 ext.toMono (b2 id hid) (c2 id hid) fun b ho => ?_
   refine x.frame b ((i.mX id bl hb).lt ho) fun j hj => ?_
   obtain ⟨j1, j2⟩ := tG hj
   have := i.inj j id b j2 (by rw [m_ hb]; exact ho)
   omega
 ·rcases own a c ha with ⟨a1, a2⟩ | ⟨a1, a2⟩ <;> rcases own b c hb with ⟨b1, b2⟩ | ⟨b1, b2⟩
  ·exact i'.inj a b c a2 b2
  ·have := i.inj a b c (tG (x.own a c a2 (i.lt b2))).2 b2
   omega
  ·have := i.inj a b c a2 (tG (x.own b c b2 (i.lt a2))).2
   omega
  ·exact i.inj a b c a2 b2
end
end Hk


namespace Hk
open Go Go.RowKit
section
variable {J : Act → Prop} {cx : Cx} {o : Oper} {ρ : List kR} {h : kT} {kv kp : kR → kT → Option R} {r : R} {ids : List Nat} {ops : Array Oper} {G : Gh} {w : World} {a : Act} {Q : Exit → Act → World → Prop} {K : Act → World → Prop}
theorem yO (hX : sR cx.P cx.A) (hK : qI cx.P cx.A cx.K) (hb : nI cx o ids ρ h kv kp = some r) (i : Inv G h w) (gl : p8 cx.A G.H) (s : oC J G h ρ a)
  (hkv : ∀ v h' G' w' V, kv v h' = some r → Ext G h w G' h' w' → Inv G' h' w' → lM G' h' v V → (∀ id ∈ ids, pK h id → h'[id]? = h[id]?) → K (a.put o.dst V) w')
  (hkp : Qf kp r G h w a Q) : o.wp cx.P a w K Q := by
 refine CW hX hK none hb (i.tN ids) gl ⟨s.len, fun j v hv => (s.rel j v hv).sub (KO ids h), s.df⟩ ?_ ?_
 ·intro v h' G' w' V hk x i' rv
  obtain ⟨x2, i2, sb, kp2⟩ := Ip i x i'
  exact hkv v _ G' w' V hk x2 i2 (rv.sub sb) kp2
 ·intro v h' G' w' V hk x i' rv
  obtain ⟨x2, i2, sb, kp2⟩ := Ip i x i'
  exact hkp v _ G' w' V hk x2 i2 (rv.sub sb)
theorem J0 {j d : Nat} {g : Bool} (hd : (ops.toList[j]?).bind (·.dst) = some d) (s : oC J G h ρ a) (hg : ρ.getD d .junk = .bool g) : yielded ops a.tmps j = some g := by
 have h1 := s.get d
 rw [hg] at h1
 have h2 := h1.tT
 have h3 : a.tmps[d]? = some (.bool g) := by
  rw [Array.getD_eq_getD_getElem?] at h2
  cases h4 : a.tmps[d]? with
  | none => rw [h4] at h2; cases h2
  | some v => rw [h4] at h2; simp at h2; rw [h2]
 rw [Array.getElem?_toList] at hd
 simp [yielded, hd, h3]
theorem J5 {j d : Nat} (hd : (ops.toList[j]?).bind (·.dst) = some d) (s : oC J G h ρ a) (hg : ρ.getD d .junk = .tuple []) : yielded ops a.tmps j = none := by
 have h1 := s.get d
 rw [hg] at h1
 have h2 := h1.Np
 rw [Array.getElem?_toList] at hd
 unfold yielded
 rw [hd]
 simp only [Option.bind_some]
 rw [Array.getD_eq_getD_getElem?] at h2
 cases h4 : a.tmps[d]? with
 | none => rfl
 | some v => rw [h4] at h2; simp at h2; rw [h2]; rfl
theorem vM {n : Nat} (hX : sR cx.P cx.A) (hK : qI cx.P cx.A cx.K) (hn : ops[n]? = some o) (hb : qY cx ops.toList o ids ρ h kv kp = some r) (i : Inv G h w) (gl : p8 cx.A G.H) (s : oC J G h ρ a)
  (hkv : ∀ v h' G' w' V, kv v h' = some r → Ext G h w G' h' w' → Inv G' h' w' → lM G' h' v V → (∀ id ∈ ids, pK h id → h'[id]? = h[id]?) → K (a.put o.dst V) w')
  (hkp : Qf kp r G h w a Q) : wpOp cx.P ops Q n K a w := by
 unfold wpOp
 simp only [hn]
 have skip : kv (.tuple []) h = some r → K (a.put o.dst undef) w := fun hk =>
  hkv _ h G w _ hk (Ext.refl G h w) i (.p _ _ (.tuple [] #[] rfl (by simp))) fun _ _ _ => rfl
 have run : nI cx o ids ρ h kv kp = some r → o.wp cx.P a w K Q := fun hb => yO hX hK hb i gl s hkv hkp
 rw [xI] at hb
 unfold wF at hb
 cases hg : o.guard with
 | none =>
  simp only [hg] at hb
  rw [if_pos (by simp [Region.wanted, hg])]
  exact .inl (run hb)
 | some jw =>
  obtain ⟨j, want⟩ := jw
  simp only [hg] at hb
  cases hd : (ops.toList[j]?).bind (·.dst) with
  | none => simp only [hd] at hb; cases hb
  | some d =>
   simp only [hd] at hb
   split at hb
   ·rename_i g hgv
    have hy := J0 hd s hgv
    cases want <;> cases g <;> simp only [cond_true, cond_false] at hb
    ·rw [if_pos (by simp [Region.wanted, hg, hy])]; exact .inl (run hb)
    ·rw [if_neg (by simp [Region.wanted, hg, hy])]; exact skip hb
    ·rw [if_neg (by simp [Region.wanted, hg, hy])]; exact skip hb
    ·rw [if_pos (by simp [Region.wanted, hg, hy])]; exact .inl (run hb)
   ·rename_i hgv
    have hy := J5 hd s hgv
    rw [if_neg (by simp [Region.wanted, hg, hy])]; exact skip hb
   ·cases hb
open Classical in
theorem FJ (hrb : cx.rb = false) {n : Nat} (hX : sR cx.P cx.A) (hK : qI cx.P cx.A cx.K) (hn : ops[n]? = some o) (hb : qY cx ops.toList o ids ρ h kv kp = some r) (hids : o9 o = false → ids = []) (i : Inv G h w) (gl : p8 cx.A G.H) (s : oC J G h ρ a)
  (hkv : ∀ v h' G' w' V, kv v h' = some r → Ext G h w G' h' w' → Inv G' h' w' → lM G' h' v V → ((o9 o = false → h' = h) ∧ ∀ id ∈ ids, pK h id → h'[id]? = h[id]?) → K (a.put o.dst V) w')
  (hkp : Qf kp r G h w a Q) : wpOp cx.P ops Q n K a w := by
 cases he : o9 o with
 | true => exact vM hX hK hn hb i gl s (fun v h' G' w' V h1 h2 h3 h4 h5 => hkv v h' G' w' V h1 h2 h3 h4 ⟨fun h => (by rw [he] at h; cases h), h5⟩) hkp
 | false =>
  cases hids he
  obtain ⟨v0, h1, h2⟩ := Cg hrb he hb
  have h3 := h2 h (fun v h' => if v = v0 ∧ h' = h then some r else none) (fun _ _ => none) fun _ _ _ => rfl
  simp only [and_self, if_true] at h3
  refine vM hX hK hn h3 i gl s (fun v h' G' w' V h4 h5 h6 h7 h8 => ?_) (fun v h' G' w' V h4 => by cases h4)
  split at h4
  ·rename_i hvh
   obtain ⟨rfl, rfl⟩ := hvh
   exact hkv _ _ G' w' V h1 h5 h6 h7 ⟨fun _ => rfl, h8⟩
  ·cases h4
theorem G_ {m : Nat} (hX : sR cx.P cx.A) (hK : qI cx.P cx.A cx.K) (hb : uZ cx o m ids ρ h kv = some r) (i : Inv G h w) (gl : p8 cx.A G.H) (s : oC J G h ρ a)
  (hkv : ∀ v h' G' w' V, kv v h' = some r → Ext G h w G' h' w' → Inv G' h' w' → lM G' h' v V → (∀ id ∈ ids, pK h id → h'[id]? = h[id]?) → K (a.put o.dst V) w') : o.wp cx.P a w K Q := by
 unfold uZ at hb
 cases hs : (h.take m).all (vY m) with
 | false => rw [hs] at hb; cases hb
 | true =>
  rw [hs] at hb
  simp only [cond_true] at hb
  obtain ⟨r0, h1, h2⟩ := Option.bind_eq_some_iff.1 hb
  unfold OG at h2
  split at h2
  ·rename_i v t
   cases hl : t.length == m with
   | false => rw [hl] at h2; cases h2
   | true =>
    rw [hl] at h2
    simp only [cond_true] at h2
    have hl : t.length = m := by simpa using hl
    have s2 : oC J G (h.take m) (ρ.map (A2 m)) a := ⟨by rw [List.length_map]; exact s.len, fun j u hu => by
     rw [List.getElem?_map] at hu
     cases hj : ρ[j]? with
     | none => rw [hj] at hu; cases hu
     | some u0 =>
      rw [hj] at hu
      simp only [Option.map_some, Option.some.injEq] at hu
      subst hu
      unfold A2
      cases hsh : u0.rX m with
      | true => exact uV Bp hsh (s.rel j u0 hj)
      | false => exact .p _ _ (.junk _), s.df⟩
    refine yO hX hK h1 (i.take hs) gl s2 (fun v' h' G' w' V e1 e2 e3 e4 e5 => ?_) (fun v' h' G' w' V e1 => by simp [yG] at e1)
    simp only [kW, Option.some.injEq, Prod.mk.injEq, List.cons.injEq, and_true, true_and] at e1
    obtain ⟨rfl, rfl⟩ := e1
    obtain ⟨G2, x2, i2, m2⟩ := Zz i e2 e3 hl
    refine hkv _ _ G2 w' V h2 x2 i2 (e4.mono m2) fun id hid hblk => ?_
    by_cases hlt : id < m
    ·rw [List.getElem?_append_left (by omega)]
     have : (h.take m)[id]? = h[id]? := by rw [List.getElem?_take, if_pos hlt]
     rw [e5 id hid (by unfold pK at hblk ⊢; rwa [this]), this]
    ·rw [List.getElem?_append_right (by omega), List.getElem?_drop, hl, show m + (id - m) = id by omega]
  ·cases h2
open Classical in
theorem EG (hrb : cx.rb = false) {n m : Nat} {it : Item} (hX : sR cx.P cx.A) (hK : qI cx.P cx.A cx.K) (hn : ops[n]? = some it.o) (hb : nR cx ops.toList m it ids ρ h kv kp = some r) (hids : o9 it.o = false → ids = []) (i : Inv G h w) (gl : p8 cx.A G.H) (s : oC J G h ρ a)
  (hkv : ∀ v h' G' w' V, kv v h' = some r → Ext G h w G' h' w' → Inv G' h' w' → lM G' h' v V → Qe it m ids h h' → K (a.put it.o.dst V) w')
  (hkp : Qf kp r G h w a Q) : wpOp cx.P ops Q n K a w := by
 have hf0 := hb
 unfold nR at hb
 cases hr : it.rsv with
 | some j =>
  simp only [hr] at hb
  cases hf : qL it.o with
  | false => rw [hf] at hb; cases hb
  | true =>
   rw [hf] at hb
   simp only [cond_true] at hb
   obtain ⟨v0, b, f1, f2, f3⟩ := FP hf hb
   have f4 := f3 h (fun v h' => if v = v0 ∧ h' = h.set (m + j) b then some r else none) (fun _ _ => none) f1
   simp only [and_self, if_true] at f4
   have hg : it.o.guard = none := by
    unfold qL at hf
    simp only [Bool.and_eq_true, Option.isNone_iff_eq_none] at hf
    exact hf.1
   unfold wpOp
   simp only [hn]
   rw [if_pos (by simp [Region.wanted, hg])]
   refine .inl (CW hX hK _ f4 i gl s (fun v h' G' w' V e1 e2 e3 e4 => ?_) (fun v h' G' w' V e1 => by cases e1))
   split at e1
   ·rename_i hvh
    obtain ⟨rfl, rfl⟩ := hvh
    refine hkv _ _ G' w' V f2 e2 e3 e4 ⟨fun he => (by rw [HF hf] at he; cases he), fun id _ hbl => ?_, fun j' hj' => ?_, fun hn => (by rw [hr] at hn; cases hn)⟩
    ·refine List.getElem?_set_ne fun hji => ?_
     subst hji
     exact M0 f1 hbl
    ·rw [hr] at hj'; cases hj'
     exact ⟨b, f1, rfl⟩
   ·cases e1
 | none =>
  simp only [hr] at hb
  cases hh : it.hid with
  | true =>
   rw [hh] at hb
   simp only [cond_true] at hb
   cases hf : tX it.o with
   | false => rw [hf] at hb; cases hb
   | true =>
    rw [hf] at hb
    simp only [cond_true] at hb
    obtain ⟨v0, t, f1, f2, f3⟩ := Mg hb
    have f4 := f3 h (fun v h' => if v = v0 ∧ h' = t ++ h.drop m then some r else none) rfl
    simp only [and_self, if_true] at f4
    have hg : it.o.guard = none := by
     unfold tX at hf
     simp only [Bool.and_eq_true, Option.isNone_iff_eq_none] at hf
     exact hf.1
    unfold wpOp
    simp only [hn]
    rw [if_pos (by simp [Region.wanted, hg])]
    refine .inl (G_ hX hK f4 i gl s (fun v h' G' w' V e1 e2 e3 e4 e5 => ?_))
    split at e1
    ·rename_i hvh
     obtain ⟨rfl, rfl⟩ := hvh
     exact hkv _ _ G' w' V f2 e2 e3 e4 ⟨fun he => (by rw [Kx hf] at he; cases he), e5, fun j hj => (by rw [hr] at hj; cases hj), fun _ _ => ⟨t, f1, rfl⟩⟩
    ·cases e1
  | false =>
   rw [hh] at hb
   simp only [cond_false] at hb
   refine FJ hrb hX hK hn hb hids i gl s (fun v h' G' w' V e1 e2 e3 e4 e5 => ?_) hkp
   exact hkv v h' G' w' V e1 e2 e3 e4 ⟨e5.1, e5.2, fun j hj => (by rw [hr] at hj; cases hj), fun _ hh' => (by rw [hh] at hh'; cases hh')⟩
def LJ (J : Act → Prop) (ops : List Oper) : Prop := ∀ o ∈ ops, ∀ (a : Act) (V : Value), J a → J (a.put o.dst V)
theorem LJ.at {ops : Array Oper} (hJ : LJ J ops.toList) {n : Nat} {o : Oper} (hn : ops[n]? = some o) {a : Act} {V : Value} (h : J a) : J (a.put o.dst V) :=
 hJ o (List.mem_of_getElem? (by rw [Array.getElem?_toList]; exact hn)) a V h
theorem C4 {k : List kR → kT → Option R} (l2 : List Nat) (hJ : LJ J ops.toList) (hX : sR cx.P cx.A) (hK : qI cx.P cx.A cx.K) : ∀ (items : List Item) (seen ρ : List kR) (h : kT) (G : Gh) (w : World) (a : Act),
  (∀ it ∈ items, ops[it.i]? = some it.o ∧ it.locks = [] ∧ it.rsv = none ∧ it.hid = false) → nX cx ops.toList 0 items seen ρ h k kp = some r → Inv G h w → p8 cx.A G.H → oC J G h ρ a →
  (∀ ρ' h' G' w' a', k ρ' h' = some r → Ext G h w G' h' w' → Inv G' h' w' → oC J G' h' ρ' a' → wpOps cx.P ops Q l2 a' w') →
  (∀ v h' G' w' V a', kp v h' = some r → Ext G h w G' h' w' → Inv G' h' w' → lM G' h' v V → J a' → Q (.panic [{ v := V, recovered := false }]) a' w') →
  wpOps cx.P ops Q (items.map (·.i) ++ l2) a w := by
 intro items
 induction items with
 | nil => intro seen ρ h G w a _ hb i gl s hk _; exact hk _ _ G w a hb (Ext.refl G h w) i s
 | cons it rest ih =>
  intro seen ρ h G w a Am hb i gl s hk hkp
  obtain ⟨h1, h2, h3, h4⟩ := Am it (by simp)
  simp only [nX, uQ, nR, h3, h4, cond_false, h2, mS, List.filterMap_nil] at hb
  rw [List.map_cons, List.cons_append, wpOps_cons]
  refine vM hX hK h1 hb i gl s (fun v h' G' w' V e1 e2 e3 e4 _ => ?_) (fun v h' G' w' V e1 e2 e3 e4 => hkp v h' G' w' V a e1 e2 e3 e4 s.df)
  exact ih _ _ _ G' w' _ (fun x hx => Am x (by simp [hx])) e1 e3 (gl.mono e2.hmono) ((s.mono e2.toMono).put it.o.dst e4 (hJ.at h1 s.df))
   (fun ρ' h'' G'' w'' a' f1 f2 f3 f4 => hk ρ' h'' G'' w'' a' f1 (e2.trans f2) f3 f4)
   (fun v h'' G'' w'' V a' f1 f2 f3 f4 f5 => hkp v h'' G'' w'' V a' f1 (e2.trans f2) f3 f4 f5)
theorem Eh {k : List kR → kT → Option R} (hJ : LJ J ops.toList) (hX : sR cx.P cx.A) (hK : qI cx.P cx.A cx.K) (items : List Item) (seen ρ : List kR) (h : kT) (G : Gh) (w : World) (a : Act)
  (h1 : ∀ it ∈ items, ops[it.i]? = some it.o ∧ it.locks = [] ∧ it.rsv = none ∧ it.hid = false) (h2 : nX cx ops.toList 0 items seen ρ h k kp = some r) (h3 : Inv G h w) (h4 : p8 cx.A G.H) (h5 : oC J G h ρ a)
  (h6 : ∀ ρ' h' G' w' a', k ρ' h' = some r → Ext G h w G' h' w' → Inv G' h' w' → oC J G' h' ρ' a' → Q .normal a' w')
  (h7 : ∀ v h' G' w' V a', kp v h' = some r → Ext G h w G' h' w' → Inv G' h' w' → lM G' h' v V → J a' → Q (.panic [{ v := V, recovered := false }]) a' w') :
  wpOps cx.P ops Q (items.map (·.i)) a w := by
 have := C4 [] hJ hX hK items seen ρ h G w a h1 h2 h3 h4 h5 h6 h7
 rwa [List.append_nil] at this
theorem qM : (pF ops.toList).map (·.i) = List.range ops.size ∧ ∀ it ∈ pF ops.toList, ops[it.i]? = some it.o ∧ it.locks = [] ∧ it.rsv = none ∧ it.hid = false := by
 constructor
 ·apply List.ext_getElem?
  intro j
  simp only [pF, List.map_map, List.getElem?_map, List.getElem?_zipIdx, List.getElem?_range', Array.getElem?_toList]
  by_cases hj : j < ops.size
  ·simp [hj]
  ·simp [hj]
 ·intro it Am
  simp only [pF, List.mem_map] at Am
  obtain ⟨⟨o, i⟩, h1, rfl⟩ := Am
  have := List.mem_zipIdx_iff_getElem?.1 h1
  simp only [Array.getElem?_toList] at this
  exact ⟨this, rfl, rfl, rfl⟩
def E6 (ops : Array Oper) (listed : Array Bool) (i : Nat) : Prop := ∀ o, ops[i]? = some o → ∀ e ∈ o.after, Region.binds .any e = true → listed.getD e.on false = true
theorem Hm {t p : Nat} : (Ai t).testBit p = decide (t = p) := by
 unfold Ai
 rw [Nat.one_shiftLeft, Nat.testBit_two_pow]
theorem OA {P : Nat → Prop} (acc : List Nat) : ∀ (es : List Edge) (m : Nat), (∀ p, m.testBit p = true → P p) →
  (∀ e ∈ es, Region.binds .any e = true → P e.on ∧ ∀ p, (acc.getD e.on 0).testBit p = true → P p) →
  ∀ p, (es.foldl (fun m e => bif Region.binds .any e then m ||| Ai e.on ||| acc.getD e.on 0 else m) m).testBit p = true → P p := by
 intro es
 induction es with
 | nil => intro m hm _ p hp; exact hm p hp
 | cons e es ih =>
  intro m hm he p hp
  refine ih _ (fun q hq => ?_) (fun x hx => he x (by simp [hx])) p hp
  cases hbd : Region.binds .any e with
  | false => simp only [hbd, cond_false] at hq; exact hm q hq
  | true =>
   simp only [hbd, cond_true, Nat.testBit_or, Bool.or_eq_true, Hm, decide_eq_true_eq] at hq
   obtain ⟨h1, h2⟩ := he e (by simp) hbd
   rcases hq with (hq | hq) | hq
   ·exact hm q hq
   ·exact hq ▸ h1
   ·exact h2 q hq
theorem G9 {listed : Array Bool} (hdc : ∀ i, listed.getD i false = true → E6 ops listed i) : ∀ (rest : List Oper) (pre : List Oper) (acc : List Nat), pre ++ rest = ops.toList → acc.length = pre.length →
  (∀ q, E6 ops listed q → ∀ p, (acc.getD q 0).testBit p = true → listed.getD p false = true) →
  ∀ q, E6 ops listed q → ∀ p, ((FG rest acc).getD q 0).testBit p = true → listed.getD p false = true := by
 intro rest
 induction rest with
 | nil => intro pre acc _ _ h; exact h
 | cons o rest ih =>
  intro pre acc hpre hlen h
  refine ih (pre ++ [o]) _ (by simpa using hpre) (by simp [hlen]) fun q hq p hp => ?_
  have ho : ops[pre.length]? = some o := by
   rw [← Array.getElem?_toList, ← hpre]; simp
  rw [List.getD_eq_getElem?_getD, List.getElem?_append] at hp
  split at hp
  ·rename_i hlt
   exact h q hq p (by rw [List.getD_eq_getElem?_getD]; exact hp)
  ·rename_i hge
   by_cases he : q = acc.length
   ·subst he
    simp only [Nat.sub_self, List.getElem?_cons_zero, Option.getD_some] at hp
    refine OA (P := fun p => listed.getD p false = true) acc _ _ (by simp) (fun e hm hbd => ?_) p hp
    have h1 := hq o (by rw [hlen]; exact ho) e (by simpa using hm) hbd
    exact ⟨h1, h e.on (hdc e.on h1)⟩
   ·have : q - acc.length = (q - acc.length - 1) + 1 := by omega
    rw [this] at hp
    simp at hp
theorem OB {listed : Array Bool} (hdc : ∀ i, listed.getD i false = true → E6 ops listed i) {q p : Nat} (hq : E6 ops listed q) (hp : ((G8 ops.toList).getD q 0).testBit p = true) : listed.getD p false = true :=
 G9 hdc ops.toList [] [] rfl rfl (by simp) q hq p hp
theorem AV {os : List Oper} {cl : List Nat} : ∀ {L : List Item}, zW os cl L = true ↔ L.Pairwise fun p q => Gj os cl p q = true
 | [] => by simp [zW]
 | p :: r => by simp [zW, AV (L := r)]
theorem LD (hrb : cx.rb = false) {m : Nat} {k : List kR → kT → Option R} (hJ : LJ J ops.toList) (hX : sR cx.P cx.A) (hK : qI cx.P cx.A cx.K) (hedges : ∀ i o, ops[i]? = some o → ∀ e ∈ o.after, Region.binds .any e = true → e.on < i) :
  ∀ (n : Nat) (L : List Item) (seen ρ : List kR) (h : kT) (G : Gh) (w : World) (a : Act) (listed : Array Bool), L.length = n →
  zW ops.toList (G8 ops.toList) L = true → (∀ it ∈ L, ops[it.i]? = some it.o ∧ (o9 it.o = false → it.locks = []) ∧ (it.rsv ≠ none ∨ it.hid = true → o9 it.o = true)) → seen.length = ops.size → listed.size = ops.size →
  (∀ j, listed.getD j true = false ↔ ∃ it ∈ L, it.i = j) → (∀ i, listed.getD i false = true → E6 ops listed i) →
  nX cx ops.toList m L seen ρ h k kp = some r → Inv G h w → p8 cx.A G.H → oC J G h ρ a →
  (∀ ρ' h' G' w' a', k ρ' h' = some r → Ext G h w G' h' w' → Inv G' h' w' → oC J G' h' ρ' a' → Q .normal a' w') →
  (∀ v h' G' w' V a', kp v h' = some r → Ext G h w G' h' w' → Inv G' h' w' → lM G' h' v V → J a' → Q (.panic [{ v := V, recovered := false }]) a' w') →
  wpAny cx.P .any ops Q n listed a w := by
 intro n
 induction n with
 | zero =>
  intro L seen ρ h G w a listed hn _ _ _ _ hun _ hb i gl s hk _
  cases List.eq_nil_of_length_eq_zero hn
  refine ⟨?_, hk _ _ G w a hb (Ext.refl G h w) i s⟩
  cases hr : Region.ready .any ops listed with
  | nil => rfl
  | cons j js =>
   have hj : j ∈ Region.ready .any ops listed := by rw [hr]; simp
   obtain ⟨it, Am, _⟩ := (hun j).1 (mem_ready.1 hj).1
   cases Am
 | succ n ih =>
  intro L seen ρ h G w a listed hn hp Am hseen hsz hun hdc hb i gl s hk hkp
  have lt : ∀ j, listed.getD j true = false → j < listed.size := fun j hj => by
   by_cases h : j < listed.size
   ·exact h
   ·simp [Array.getD, h] at hj
  have conv : ∀ j, j < listed.size → listed.getD j false ≠ true → listed.getD j true = false := fun j hj hn => by
   simp only [Array.getD, hj, dite_true] at hn ⊢
   simpa using hn
  have notIn : ∀ j, listed.getD j false = true → listed.getD j true = false → False := fun j h1 h2 => by
   have := lt j h2
   simp [Array.getD, this] at h1 h2
   rw [h1] at h2; cases h2
  have some_ready : ∀ m, (∃ it ∈ L, it.i = m) → ∃ j, j ∈ Region.ready .any ops listed := by
   intro m
   induction m using Nat.strongRecOn with
   | _ m ihm =>
    rintro ⟨x, hx, rfl⟩
    by_cases hall : ∀ e ∈ x.o.after, Region.binds .any e = true → listed.getD e.on false = true
    ·exact ⟨x.i, mem_ready.2 ⟨(hun x.i).2 ⟨x, hx, rfl⟩, x.o, (Am x hx).1, hall⟩⟩
    ·simp only [Classical.not_forall] at hall
     obtain ⟨e, he, hbd, hnl⟩ := hall
     have hlt := hedges x.i x.o (Am x hx).1 e he hbd
     have := lt x.i ((hun x.i).2 ⟨x, hx, rfl⟩)
     exact ihm e.on hlt ((hun e.on).1 (conv e.on (by omega) hnl))
  refine ⟨fun hr => ?_, fun j hj => ?_⟩
  ·obtain ⟨x, hx⟩ := List.exists_mem_of_length_pos (l := L) (by omega)
   obtain ⟨y, hy⟩ := some_ready x.i ⟨x, hx, rfl⟩
   rw [hr] at hy; cases hy
  ·obtain ⟨hju, o, hjo, hje⟩ := mem_ready.1 hj
   obtain ⟨it, hitL, rfl⟩ := (hun j).1 hju
   obtain ⟨pre, post, rfl⟩ := List.append_of_mem hitL
   have hpw := AV.1 hp
   have hsub : (pre ++ post).Sublist (pre ++ it :: post) := List.Sublist.append (List.Sublist.refl _) (List.sublist_cons_self _ _)
   have hpw2 := hpw.sublist hsub
   have hpa := List.pairwise_append.1 hpw
   have ho : o = it.o := by have := (Am it (by simp)).1; rw [hjo] at this; exact Option.some.inj this
   subst ho
   have hpre : ∀ p ∈ pre, indep ops.toList p it = true ∧ p.i ≠ it.i ∧ p.i < seen.length := by
    intro p hpm
    have h1 := hpa.2.2 p hpm it (by simp)
    simp only [Gj, Bool.and_eq_true, Bool.or_eq_true, bne_iff_ne, Bool.not_eq_true'] at h1
    have hpu := (hun p.i).2 ⟨p, by simp [hpm], rfl⟩
    refine ⟨h1.2.resolve_left fun hbit => ?_, h1.1.1, by rw [hseen, ← hsz]; exact lt _ hpu⟩
    exact notIn p.i (OB hdc (q := it.i) (fun o' ho' e he hbd => by rw [hjo] at ho'; cases ho'; exact hje e he hbd) hbit) hpu
   have hnd : (pre.map (·.i)).Nodup := by
    rw [List.nodup_iff_pairwise_ne, List.pairwise_map]
    exact hpa.1.imp fun hpq => by
     simp only [Gj, Bool.and_eq_true, bne_iff_ne] at hpq
     exact hpq.1.1
   have hpost : ∀ q ∈ pre ++ post, q.i ≠ it.i := by
    intro q hq
    rcases List.mem_append.1 hq with hq | hq
    ·exact (hpre q hq).2.1
    ·have h1 := (List.pairwise_cons.1 hpa.2.1).1 q hq
     simp only [Gj, Bool.and_eq_true, bne_iff_ne] at h1
     exact Ne.symm h1.1.1
   obtain ⟨ids, kv, e1, _, e3, e4⟩ := move hrb it post (Am it (by simp)).2.1 (Am it (by simp)).2.2 pre seen ρ h hpre hnd hb
   refine EG hrb hX hK hjo e1 e3 i gl s (fun v h' G' w' V f1 f2 f3 f4 f5 => ?_) (fun v h' G' w' V f1 f2 f3 f4 => hkp v h' G' w' V a f1 f2 f3 f4 s.df)
   have hlen : (pre ++ post).length = n := by simp at hn ⊢; omega
   have hlt := lt it.i hju
   refine ih (pre ++ post) _ _ h' G' w' _ _ hlen (AV.2 hpw2) (fun x hx => Am x (hsub.subset hx)) (by simpa using hseen) (by simpa using hsz) (fun q => ?_) (fun q hq => ?_) (e4 v h' f5 f1) f3 (gl.mono f2.hmono)
    ((s.mono f2.toMono).put it.o.dst f4 (hJ.at hjo s.df))
    (fun ρ' h'' G'' w'' a' g1 g2 g3 g4 => hk ρ' h'' G'' w'' a' g1 (f2.trans g2) g3 g4)
    (fun v h'' G'' w'' V a' g1 g2 g3 g4 g5 => hkp v h'' G'' w'' V a' g1 (f2.trans g2) g3 g4 g5)
   ·by_cases hq : it.i = q
    ·subst hq
     constructor
     ·intro h1; simp [Array.getD, hlt] at h1
     ·rintro ⟨x, hx, he⟩; exact absurd he (hpost x hx)
    ·rw [getD_set_ne true hq, hun q]
     constructor
     ·rintro ⟨x, hx, he⟩
      refine ⟨x, ?_, he⟩
      rcases List.mem_append.1 hx with hx | hx
      ·simp [hx]
      ·rcases List.mem_cons.1 hx with rfl | hx
       ·exact absurd he hq
       ·simp [hx]
     ·rintro ⟨x, hx, he⟩; exact ⟨x, hsub.subset hx, he⟩
   ·have hE : E6 ops listed q := by
     by_cases hqi : it.i = q
     ·subst hqi; intro o' ho' e he hbd; rw [hjo] at ho'; cases ho'; exact hje e he hbd
     ·rw [getD_set_ne false hqi] at hq; exact hdc q hq
    exact fun o' ho' e he hbd => getD_set_true (hE o' ho' e he hbd)
end
end Hk


namespace Hk
open Go Go.RowKit
section
variable {J : Act → Prop} {cx : Cx} {ρ : List kR} {h : kT} {k : List kR → kT → Option R} {r : R} {ops : Array Oper} {G : Gh} {w : World} {a : Act} {Q : Exit → Act → World → Prop}
theorem Ep : ∀ {fl : List Nat} {i k : Nat}, EY fl i k ≠ none → i ∈ fl
 | [], _, _, h => absurd rfl h
 | a :: r, i, k, h => by
  unfold EY at h
  cases ha : a == i with
  | true => simp at ha; simp [ha]
  | false => rw [ha] at h; exact List.mem_cons_of_mem _ (Ep h)
theorem FY {os : List Oper} {cl fl : List Nat} (hfl : ∀ i ∈ fl, UK qL os i = true) : ∀ (l before : List Nat), ∀ it ∈ yP os cl fl l before, os[it.i]? = some it.o ∧ (o9 it.o = false → it.locks = []) ∧ (it.rsv ≠ none ∨ it.hid = true → o9 it.o = true) := by
 intro l
 induction l with
 | nil => intro before it Am; cases Am
 | cons i l ih =>
  intro before it Am
  unfold yP at Am
  split at Am
  ·rename_i o ho
   rcases List.mem_cons.1 Am with rfl | Am
   ·refine ⟨ho, fun he => by simp at he; simp [he], fun hx => ?_⟩
    rcases hx with hx | hx
    ·have h1 := hfl i (Ep hx)
     simp only [UK, ho] at h1
     exact HF h1
    ·simp only [Bool.and_eq_true] at hx
     exact Kx hx.1
   ·exact ih _ it Am
  ·cases Am
theorem AY (ρ : List kR) (d : Option Tmp) (v : kR) : (pG ρ d v).length = ρ.length := by cases d <;> simp [pG]
theorem u4 {os : List Oper} {m : Nat} {kp : kR → kT → Option R} (n : Nat) : ∀ (items : List Item) (seen ρ : List kR) (h : kT), ρ.length = n →
  nX cx os m items seen ρ h k kp = nX cx os m items seen ρ h (fun ρ' h' => if ρ'.length = n then k ρ' h' else none) kp := by
 intro items
 induction items with
 | nil => intro seen ρ h hn; simp [nX, hn]
 | cons it rest ih =>
  intro seen ρ h hn
  simp only [nX, uQ]
  congr 1
  funext v h'
  exact ih _ _ _ (by rw [AY, hn])
def rP (J : Act → Prop) (n : Nat) (kn : List kR → kT → Option R) (ke : Ex → List kR → kT → Option R) (r : R) (G : Gh) (h : kT) (w : World) (Q : Exit → Act → World → Prop) : Prop :=
 (∀ ρ' h' G' w' a', kn ρ' h' = some r → Ext G h w G' h' w' → Inv G' h' w' → oC J G' h' ρ' a' → ρ'.length = n → Q .normal a' w') ∧
 (∀ e ρ' h' G' w' a', ke e ρ' h' = some r → Ext G h w G' h' w' → Inv G' h' w' → oC J G' h' ρ' a' → ρ'.length = n →
  match e with
  | .exit id => Q (.exit id) a' w'
  | .ret => Q .ret a' w'
  | _ => True) ∧
 ∀ v ρ' h' G' w' a' V, ke (.pan v) ρ' h' = some r → Ext G h w G' h' w' → Inv G' h' w' → lM G' h' v V → J a' → Q (.panic [{ v := V, recovered := false }]) a' w'
theorem Ext.SA {G' : Gh} {h' : kT} {w' : World} (x : Ext G h { w with drawn := w.drawn + 1 } G' h' w') : Ext G h w G' h' w' :=
 ⟨x.os, x.tape, x.output, x.size, x.frame, x.hmono, x.own, x.kinds⟩
theorem Inv.By (i : Inv G h w) (n : Nat) : Inv G (By n h) w ∧ Ext G h w G (By n h) w := by
 cases n with
 | zero => exact ⟨i, Ext.refl G h w⟩
 | succ n =>
  have hfr : ∀ (n j : Nat) (bl : lW), (HJ n)[j]? = some bl → bl = .free := by
   intro n
   induction n with
   | zero => intro j bl hb; simp [HJ] at hb
   | succ n ih =>
    intro j bl hb
    cases j with
    | zero => simp [HJ] at hb; exact hb.symm
    | succ j => exact ih j bl (by simpa [HJ] using hb)
  refine i.push rfl rfl rfl (Nat.le_refl _) (fun _ _ => rfl) (fun _ _ => rfl) (fun _ _ => rfl) (fun _ _ _ h => h) (fun _ _ _ => rfl) (fun b k v _ hv => i.ok b k v hv) (fun j bl hb _ => ?_) (fun j bl b hb ho => ?_) (fun j j' bl bl' b hb _ ho _ => ?_)
  ·rw [hfr _ j bl hb]; trivial
  ·rw [hfr _ j bl hb] at ho; cases ho
  ·rw [hfr _ j bl hb] at ho; cases ho
theorem Dz {id : Nat} {draw : Bool} (hJ : LJ J ops.toList) (hm : cx.P.follows .mixedOrders = true) (hX : sR cx.P cx.A) (hK : qI cx.P cx.A cx.K) {kp : kR → kT → Option R} (hb : tB cx ops.toList draw ρ h k kp = some r) (i : Inv G h w) (gl : p8 cx.A G.H) (s : oC J G h ρ a)
  (hn : ρ.length = cx.n)
  (hk : ∀ ρ' h' G' w' a', k ρ' h' = some r → Ext G h w G' h' w' → Inv G' h' w' → oC J G' h' ρ' a' → ρ'.length = cx.n → Q .normal a' w')
  (hkp : ∀ v h' G' w' a' V, kp v h' = some r → Ext G h w G' h' w' → Inv G' h' w' → lM G' h' v V → J a' → Q (.panic [{ v := V, recovered := false }]) a' w') : (Code.region id ops draw).wp cx.P Q a w := by
 cases draw with
 | false =>
  simp only [tB] at hb
  rw [u4 cx.n _ _ _ _ hn] at hb
  refine wp_region ?_
  rw [← qM.1]
  refine Eh hJ hX hK _ _ _ _ G w a qM.2 hb i gl s (fun ρ' h' G' w' a' e1 e2 e3 e4 => ?_) (fun v h' G' w' V a' e1 e2 e3 e4 e5 => ?_)
  ·split at e1
   ·rename_i hl; exact hk ρ' h' G' w' a' e1 e2 e3 e4 hl
   ·cases e1
  ·exact hkp v h' G' w' a' V e1 e2 e3 e4 e5
 | true =>
  simp only [tB] at hb
  cases hd : zK ops.toList with
  | none => simp only [hd] at hb; cases hb
  | some items =>
   simp only [hd] at hb
   unfold zK at hd
   simp only [] at hd
   generalize Am : yP ops.toList (G8 ops.toList) (FQ ops.toList (G8 ops.toList)) (N7 ops.toList) [] = items' at hd
   cases hc : (zW ops.toList (G8 ops.toList) items' && IT ops.toList && (items'.length == ops.toList.length) && (List.range ops.toList.length).all (fun i => items'.any fun it => it.i == i)) with
   | false => rw [hc] at hd; cases hd
   | true =>
    rw [hc] at hd
    cases hd
    rw [u4 cx.n _ _ _ _ hn] at hb
    simp only [Bool.and_eq_true, beq_iff_eq, Array.length_toList, List.all_eq_true, List.mem_range, List.any_eq_true] at hc
    obtain ⟨⟨⟨h1, h2⟩, h3⟩, h4⟩ := hc
    have hspec : ∀ it ∈ items, ops[it.i]? = some it.o ∧ (o9 it.o = false → it.locks = []) ∧ (it.rsv ≠ none ∨ it.hid = true → o9 it.o = true) := by
     intro it hm
     rw [← Am] at hm
     have := FY (fun i hi => by
      have := (List.mem_filter.1 hi).2
      simp only [Bool.and_eq_true] at this
      exact this.1) _ _ it hm
     rwa [Array.getElem?_toList] at this
    refine wp_region_any hm ?_
    obtain ⟨ir, xr⟩ := i.By (De items)
    refine LD (cx := { cx with rb := false }) rfl (m := h.length) hJ hX hK (fun j o ho e he hbd => ?_) ops.size items _ ρ (By (De items) h) G _ a _ h3 h1 hspec (by simp) (by simp) (fun j => ?_) (fun j hj => ?_) hb ir.drew gl (s.mono xr.toMono)
     (fun ρ' h' G' w' a' e1 e2 e3 e4 => by
      split at e1
      ·rename_i hl; exact hk ρ' h' G' w' a' e1 (xr.trans e2.SA) e3 e4 hl
      ·cases e1) (fun v h' G' w' V a' e1 e2 e3 e4 e5 => hkp v h' G' w' a' V e1 (xr.trans e2.SA) e3 e4 e5)
    ·simp only [IT, List.all_eq_true] at h2
     have := h2 (o, j) (List.mem_zipIdx_iff_getElem?.2 (by simpa using ho)) e (by simpa using he)
     simpa [hbd] using this
    ·constructor
     ·intro hj
      have hlt : j < ops.size := by
       by_cases hlt : j < ops.size
       ·exact hlt
       ·simp [Array.getD, hlt] at hj
      obtain ⟨x, hx, he⟩ := h4 j hlt
      exact ⟨x, hx, by simpa using he⟩
     ·rintro ⟨x, hx, rfl⟩
      have := (Array.getElem?_eq_some_iff.1 (hspec x hx).1).1
      simp [Array.getD, this]
    ·exfalso
     simp [Array.getD] at hj
end
end Hk


namespace Hk
open Go Go.RowKit
section
variable {G G' : Gh} {h h' : kT} {w : World} {m : Nat}
def Qo (G : Gh) (h : kT) (w : World) (G' : Gh) (m : Nat) : Prop :=
 (∀ id cs, m ≤ id → h[id]? = some (.cells cs) → ∀ k, G'.H (G.mX id) k = w.cell? ⟨G.mX id, k, none⟩) ∧
  ∀ id tot sz cs b, m ≤ id → h[id]? = some (.vec tot sz cs) → (G.cur id).ownBlock = some b → ∀ k, G'.H b k = w.cell? ⟨b, k, none⟩
theorem Gy (i : Inv G h w) (l : Left G h G' h' m) (st : Qo G h w G' m) {v : kR} {V : Value} (r : lM G h v V) : lM G' h' (v.nM m h) V := by
  have junk : lM G' h' .junk V := .p _ _ (.junk _)
  have cellsOf : ∀ (id : Nat) (cs row part : List kR) (off : Nat), m ≤ id → h[id]? = some (.cells cs) → (∀ (j : Nat) (c : kR), part[j]? = some c → cs[off + j]? = some c) → mU part = some row →
      ∃ F : Nat → Value, ∀ (j : Nat) (v : kR), row[j]? = some v → G'.H (G.mX id) (off + j) = some (F j) ∧ v.mC = true ∧ o7 G'.H v (F j) := by
    intro id cs row part off hid hc hpart hrow
    obtain ⟨C, e, h1, h2, h3, h4⟩ := i.mX id _ hc
    obtain ⟨p1, p2⟩ := pR hrow
    refine ⟨fun j => C.getD (off + j) undef, fun j v hv => ?_⟩
    have hj : j < part.length := by rw [← p1]; exact (List.getElem?_eq_some_iff.1 hv).1
    obtain ⟨c', e1, e2⟩ := p2 j _ (List.getElem?_eq_getElem hj)
    rw [hv] at e1; cases e1
    have hcs := hpart j _ (List.getElem?_eq_getElem hj)
    have hlt : off + j < C.size := by rw [h2]; exact (List.getElem?_eq_some_iff.1 hcs).1
    obtain ⟨e3, e4⟩ := tL e2 (h4 _ _ hcs).2
    refine ⟨?_, e4, e3.mono l.hmono⟩
    rw [st.1 id cs hid hc, cell_of w _ _ h1]
    simp [Array.getD_eq_getD_getElem?, hlt]
  cases v with
  | slice rows t =>
    cases t with
    | own id =>
      simp only [kR.nM]
      cases hd : decide (id < m) with
      | true =>
        simp only [cond_true]
        exact rO l (by simpa [kR.s5, uI] using hd) r
      | false =>
        simp only [cond_false]
        exact .p _ _ (r.q9.mono l.hmono)
    | _ => exact rO l rfl r
  | ptr id off =>
    simp only [kR.nM]
    cases hd : decide (id < m) with
    | true =>
      simp only [cond_true]
      exact rO l (by simpa [kR.s5, uI] using hd) r
    | false =>
      simp only [cond_false]
      have hid : m ≤ id := by simpa using hd
      split
      · rename_i cs hc
        split
        · rename_i row hrow
          obtain ⟨rfl, _⟩ := r.xM
          obtain ⟨F, hF⟩ := cellsOf id cs row _ off hid hc (fun j c hj => by rwa [List.getElem?_drop] at hj) hrow
          exact .p _ _ (.pptr row _ off F (fun j v hv => (hF j v hv).1) (fun j v hv => (hF j v hv).2.1) (fun j v hv => (hF j v hv).2.2))
        · exact junk
      · exact junk
  | mslice id off len sz =>
    simp only [kR.nM]
    cases hd : decide (id < m) with
    | true =>
      simp only [cond_true]
      exact rO l (by simpa [kR.s5, uI] using hd) r
    | false =>
      simp only [cond_false]
      have hid : m ≤ id := by simpa using hd
      split
      · rename_i cs hc
        split
        · rename_i row hrow
          cases hle : decide (off + len * sz ≤ cs.length) with
          | false => exact junk
          | true =>
            simp only [cond_true]
            have hle : off + len * sz ≤ cs.length := by simpa using hle
            obtain ⟨a, cap, rfl, hcap, ha⟩ := r.w_
            by_cases h0 : len = 0
            · subst h0; exact .p _ _ (.slice0 a cap)
            · obtain ⟨rfl, _⟩ := ha (by omega)
              obtain ⟨F, hF⟩ := cellsOf id cs row _ off hid hc (fun j c hj => by
                rw [List.getElem?_take] at hj
                split at hj
                · rwa [List.getElem?_drop] at hj
                · cases hj) hrow
              have hrl : row.length = len * sz := by rw [(pR hrow).1]; simp; omega
              exact .p _ _ (y7 (by omega) hcap (fun j v hv _ => ⟨(hF j v hv).1, (hF j v hv).2.2, (hF j v hv).2.1⟩))
        · exact junk
      · exact junk
  | vslice id tot off len sz =>
    simp only [kR.nM]
    cases hd : decide (id < m) with
    | true =>
      simp only [cond_true]
      exact rO l (by simpa [kR.s5, uI] using hd) r
    | false =>
      simp only [cond_false]
      have hid : m ≤ id := by simpa using hd
      split
      · rename_i tot' sz' cs hc
        split
        · rename_i row hrow
          cases hle : decide (tot = tot' ∧ off + len * sz ≤ cs.length) with
          | false => exact junk
          | true =>
            simp only [cond_true]
            obtain ⟨rfl, hle⟩ : tot = tot' ∧ off + len * sz ≤ cs.length := by simpa using hle
            obtain ⟨b, cap, rfl, hnf, htot, hlc, hv⟩ := r.pP
            obtain ⟨b', cap', C, e0, g1, g2, g3, g4, g5, g6, g7, g8, g9⟩ := i.mX id _ hc
            obtain ⟨l0, cap0, k1, _⟩ := hv (by rw [g1]; rfl)
            have hcur := g1
            rw [g1] at k1
            simp only [Value.slice.injEq, Option.some.injEq, Addr.mk.injEq] at k1
            obtain ⟨⟨rfl, _⟩, _, rfl⟩ := k1
            obtain ⟨p1, p2⟩ := pR hrow
            have hdl : ((cs.drop off).take (len * sz)).length = len * sz := by rw [List.length_take, List.length_drop]; omega
            rw [hdl] at p1
            refine .p _ _ (y7 (F := fun j => C.getD (off + j) undef) (by omega) hlc fun j v hvv _ => ?_)
            have hj : j < len * sz := by rw [← p1]; exact (List.getElem?_eq_some_iff.1 hvv).1
            obtain ⟨c', e1, e2⟩ := p2 j _ (List.getElem?_eq_getElem (by omega))
            rw [hvv] at e1; cases e1
            have hcs : cs[off + j]? = some (((cs.drop off).take (len * sz))[j]'(by omega)) := by
              have := List.getElem?_eq_getElem (l := (cs.drop off).take (len * sz)) (i := j) (by omega)
              rw [List.getElem?_take, if_pos hj, List.getElem?_drop] at this
              exact this
            obtain ⟨_, hrel⟩ := g9 _ _ hcs
            obtain ⟨z1, z2⟩ := tL e2 hrel
            have hlt : off + j < C.size := by
              have := (List.getElem?_eq_some_iff.1 hcs).1
              have h2 : cs.length ≤ C.size := by rw [g7, g5]; exact Nat.mul_le_mul_right _ g3
              omega
            refine ⟨?_, z1.mono l.hmono, z2⟩
            rw [st.2 id _ _ _ b' hid hc (by rw [hcur]; rfl), cell_of w _ _ g2]
            simp [Array.getD_eq_getD_getElem?, hlt]
        · exact junk
      · exact junk
  | _ =>
    simp only [kR.nM]
    first
      | (cases hs : kR.rX m _ with
         | true => exact uV l hs r
         | false => exact junk)
theorem UU (i : Inv G h w) (l : Left G h G' h' m) (st : Qo G h w G' m) {v : kR} {V : Value} (r : lM G h v V) : lM G' h' (v.oM m h) V := by
 have one : ∀ {v : kR} {V : Value}, lM G h v V → lM G' h' (v.nM m h) V := fun r => Gy i l st r
 have agg : ∀ (cs : List kR) (X : Value), lM G h (.agg cs) X → lM G' h' (.agg (cs.map (·.nM m h))) X := by
  intro cs X hx
  obtain ⟨C, rfl, hl, hr⟩ := hx.tQ
  refine .agg _ _ (by simpa using hl) fun i u hu => ?_
  simp only [List.getElem?_map, Option.map_eq_some_iff] at hu
  obtain ⟨a, ha, rfl⟩ := hu
  exact one (hr i a ha)
 cases v with
 | agg cs => exact agg cs V r
 | tuple vs =>
  obtain ⟨C, rfl, hl, hr⟩ := r.zD
  refine .tuple _ _ (by simpa using hl) fun i u hu => ?_
  simp only [List.getElem?_map, Option.map_eq_some_iff] at hu
  obtain ⟨a, ha, rfl⟩ := hu
  have := hr i a ha
  cases a <;> first | exact agg _ _ this | exact one this
 | iface t v =>
  obtain ⟨W, rfl, hr⟩ := r.Bn
  cases v <;> first | exact .iface _ _ _ (agg _ _ hr) | exact .iface _ _ _ (one hr)
 | _ => exact one r
theorem vA : ∀ {cs cs' : List kR}, mP m h cs = some cs' → cs'.length = cs.length ∧ ∀ (j : Nat) (c : kR), cs'[j]? = some c → c.mC = true ∧ ∃ c0, cs[j]? = some c0 ∧ c = c0.nM m h
 | [], cs', hc => by simp only [mP, Option.some.injEq] at hc; subst hc; simp
 | v :: r, cs', hc => by
  simp only [mP] at hc
  cases hk : (v.nM m h).mC with
  | false => rw [hk] at hc; cases hc
  | true =>
   rw [hk] at hc
   simp only [cond_true] at hc
   split at hc
   ·rename_i r' hr
    cases hc
    obtain ⟨h1, h2⟩ := vA hr
    refine ⟨by simp [h1], fun j c hj => ?_⟩
    cases j with
    | zero => simp at hj; subst hj; exact ⟨hk, v, rfl, rfl⟩
    | succ j => simpa using h2 j c (by simpa using hj)
   ·cases hc
theorem Dg : ∀ {bs bs' : List lW}, oA m h bs = some bs' → bs'.length = bs.length ∧ ∀ (j : Nat) (b : lW), bs[j]? = some b → ∃ b', bs'[j]? = some b' ∧ pA m h b = some b'
 | [], bs', hb => by simp only [oA, Option.some.injEq] at hb; subst hb; simp
 | b :: r, bs', hb => by
  simp only [oA] at hb
  split at hb
  ·rename_i b' r' hb' hr
   cases hb
   obtain ⟨h1, h2⟩ := Dg hr
   refine ⟨by simp [h1], fun j c hj => ?_⟩
   cases j with
   | zero => simp at hj; subst hj; exact ⟨b', rfl, hb'⟩
   | succ j => simpa using h2 j c (by simpa using hj)
  ·cases hb
theorem Nl (ht : mL m h = some h') (hm : m ≤ h.length) : h'.length = m ∧ ∀ (id : Nat) (b : lW), id < m → h[id]? = some b → ∃ b', h'[id]? = some b' ∧ pA m h b = some b' := by
 obtain ⟨h1, h2⟩ := Dg ht
 refine ⟨by rw [h1]; simp; omega, fun id b hid hb => ?_⟩
 exact h2 id b (by rw [List.getElem?_take, if_pos hid]; exact hb)
theorem vH {b b' : lW} (hs : pA m h b = some b') : (∀ G G' : Gh, G'.mX = G.mX → G'.cur = G.cur → ∀ id, Kind G G' id b b') ∧ (b ≠ .free → b' ≠ .free) ∧ (∀ n sz, b = .front n sz → b' = .front n sz) ∧
  ∀ (G : Gh) (id : Nat), mT G id b' = mT G id b := by
 cases b with
 | cells cs =>
  simp only [pA, Option.map_eq_some_iff] at hs
  obtain ⟨cs', h1, rfl⟩ := hs
  refine ⟨fun G G' e1 e2 id => ⟨(vA h1).1.symm, by rw [e1], by rw [e2]⟩, by simp, by simp, by simp [mT]⟩
 | vec t sz cs =>
  simp only [pA, Option.map_eq_some_iff] at hs
  obtain ⟨cs', h1, rfl⟩ := hs
  exact ⟨fun G G' e1 e2 id => by simp [Kind, e1, e2], by simp, by simp, by simp [mT]⟩
 | map es =>
  simp only [pA] at hs
  cases ha : es.all (fun e => e.2.rX m) <;> rw [ha] at hs <;> cases hs
  exact ⟨fun G G' e1 e2 id => by simp [Kind, e1, e2], by simp, by simp, by simp⟩
 | free => cases hs; exact ⟨fun G G' e1 e2 id => trivial, by simp, by simp, by simp⟩
 | gone => cases hs; exact ⟨fun G G' e1 e2 id => by simp [Kind, e1, e2], by simp, by simp, by simp⟩
 | front n sz => cases hs; exact ⟨fun G G' e1 e2 id => by simp [Kind, e1, e2], by simp, by simp, by simp⟩
end
theorem vI {G G1 : Gh} {h h1 h2 : kT} {w w1 : World} (x : Ext G h w G1 h1 w1) (i1 : Inv G1 h1 w1) (ht : mL h.length h1 = some h2) :
  ∃ G2, Inv G2 h2 w1 ∧ Ext G h w G2 h2 w1 ∧ h2.length = h.length ∧ (∀ (v : kR) (V : Value), lM G1 h1 v V → lM G2 h2 (v.oM h.length h1) V) ∧ ∀ b k v, G1.H b k = some v → G2.H b k = some v := by
 classical
 have hm : h.length ≤ h1.length := by
  by_cases h0 : h.length = 0
  ·omega
  ·have hlt : h.length - 1 < h.length := by omega
   obtain ⟨bl', hb, _⟩ := x.kinds (h.length - 1) _ (List.getElem?_eq_getElem hlt)
   have := (List.getElem?_eq_some_iff.1 hb).1
   omega
 let Drop : Nat → Prop := fun b => ∃ id, h.length ≤ id ∧ owner G1 h1 id = some b ∧ ((∃ cs, h1[id]? = some (.cells cs)) ∨ ∃ tot sz cs, h1[id]? = some (.vec tot sz cs))
 let G2 : Gh := { G1 with H := fun b k => if Drop b then w1.cell? ⟨b, k, none⟩ else G1.H b k }
 have hH : ∀ b k, G2.H b k = if Drop b then w1.cell? ⟨b, k, none⟩ else G1.H b k := fun _ _ => rfl
 have dropNone : ∀ b, Drop b → ∀ k, G1.H b k = none := by
  rintro b ⟨id, _, ho, ⟨cs, hc⟩ | ⟨tot, sz, cs, hc⟩⟩ k
  ·rw [m_ hc] at ho
   obtain ⟨C, e, _, _, h3, _⟩ := i1.mX id _ hc
   cases ho; exact h3 k
  ·rw [m_ hc] at ho
   obtain ⟨b', cap', C, e0, g1, g2, g3, g4, g5, g6, g7, g8, g9⟩ := i1.mX id _ hc
   simp only [mT, g1, Value.ownBlock, Option.some.injEq] at ho
   subst ho; exact g8 k
 have hmono : ∀ b k v, G1.H b k = some v → G2.H b k = some v := by
  intro b k v hv
  rw [hH]
  split
  ·rename_i hd; rw [dropNone b hd k] at hv; cases hv
  ·exact hv
 obtain ⟨tl, tb⟩ := Nl ht hm
 have back : ∀ (id : Nat) (b' : lW), h2[id]? = some b' → id < h.length ∧ ∃ b, h1[id]? = some b ∧ pA h.length h1 b = some b' := by
  intro id b' hb'
  have hid : id < h.length := by rw [← tl]; exact (List.getElem?_eq_some_iff.1 hb').1
  have hlt : id < h1.length := by omega
  obtain ⟨b'', e1, e2⟩ := tb id _ hid (List.getElem?_eq_getElem hlt)
  rw [hb'] at e1; cases e1
  exact ⟨hid, _, List.getElem?_eq_getElem hlt, e2⟩
 have l : Left G1 h1 G2 h2 h.length := by
  refine ⟨hmono, rfl, rfl, fun id hid ⟨b, hb, hf⟩ => ?_, fun id n sz hid hf => ?_, fun id hid ⟨b, hb, hf, hn⟩ => ?_⟩
  ·obtain ⟨b', e1, e2⟩ := tb id b hid hb
   exact ⟨b', e1, (vH e2).2.1 hf⟩
  ·obtain ⟨b', e1, e2⟩ := tb id _ hid hf
   rw [e1, (vH e2).2.2.1 n sz rfl]
  ·obtain ⟨b', e1, e2⟩ := tb id b hid hb
   have hk := (vH e2).1 G1 G1 rfl rfl id
   exact ⟨b', e1, (hk.mX hf).1, hk.nf hf hn⟩
 have st : Qo G1 h1 w1 G2 h.length := by
  refine ⟨fun id cs hid hc k => ?_, fun id tot sz cs b hid hc ho k => ?_⟩
  ·rw [hH, if_pos ⟨id, hid, by rw [m_ hc]; rfl, .inl ⟨cs, hc⟩⟩]
  ·rw [hH, if_pos ⟨id, hid, by rw [m_ hc]; exact ho, .inr ⟨tot, sz, cs, hc⟩⟩]
 have own : ∀ id b, owner G2 h2 id = some b → id < h.length ∧ owner G1 h1 id = some b := by
  intro id b ho
  obtain ⟨bl, hb, hob⟩ := oZ ho
  obtain ⟨hid, b0, e1, e2⟩ := back id bl hb
  refine ⟨hid, ?_⟩
  rw [m_ e1, ← (vH e2).2.2.2]
  cases bl <;> exact hob
 have noDrop : ∀ id b, id < h.length → owner G1 h1 id = some b → ¬ Drop b := by
  rintro id b hid ho ⟨id', hid', ho', _⟩
  have := i1.inj id id' _ ho ho'
  omega
 have ext : Ext G h w G2 h2 w1 := by
  refine ⟨x.os, x.tape, x.output, x.size, fun b hb hn => ?_, fun b k v hv => hmono b k v (x.hmono b k v hv), fun id b ho hb => x.own id b (own id b ho).2 hb, fun id bl hb => ?_⟩
  ·obtain ⟨e1, e2⟩ := x.frame b hb hn
   refine ⟨e1, fun k => ?_⟩
   rw [hH, if_neg, e2]
   rintro ⟨id, hid, ho, _⟩
   exact hn id (x.own id _ ho hb)
  ·obtain ⟨bl', e1, e2⟩ := x.kinds id bl hb
   obtain ⟨b', e3, e4⟩ := tb id bl' (List.getElem?_eq_some_iff.1 hb).1 e1
   exact ⟨b', e3, e2.trans ((vH e4).1 G1 G2 rfl rfl id)⟩
 refine ⟨G2, ⟨fun b k v hv => ?_, fun id bl hb => ?_, fun a b c ha hb => i1.inj a b c (own a c ha).2 (own b c hb).2⟩, ext, tl, fun v V r => UU i1 l st r, hmono⟩
 ·rw [hH] at hv
  split at hv
  ·exact hv
  ·exact i1.ok b k v hv
 ·obtain ⟨hid, b0, e1, e2⟩ := back id bl hb
  have hk := i1.mX id b0 e1
  have keepH : ∀ b, owner G1 h1 id = some b → ∀ k, G2.H b k = G1.H b k := fun b ho k => by rw [hH, if_neg (noDrop id b hid ho)]
  cases b0 with
  | free => cases e2; trivial
  | gone => cases e2; trivial
  | cells cs =>
   simp only [pA, Option.map_eq_some_iff] at e2
   obtain ⟨cs', e3, rfl⟩ := e2
   obtain ⟨C, e, g1, g2, g3, g4⟩ := hk
   obtain ⟨s1, s2⟩ := vA e3
   refine ⟨C, e, g1, by rw [s1]; exact g2, fun k => by rw [show G2.mX id = G1.mX id from rfl, keepH _ (by rw [m_ e1]; rfl)]; exact g3 k, fun j v hv => ?_⟩
   obtain ⟨k1, c0, k2, rfl⟩ := s2 j v hv
   exact ⟨k1, Gy i1 l st (g4 j c0 k2).2⟩
  | vec tot sz cs =>
   simp only [pA, Option.map_eq_some_iff] at e2
   obtain ⟨cs', e3, rfl⟩ := e2
   obtain ⟨b', cap', C, e0, g1, g2, g3, g4, g5, g6, g7, g8, g9⟩ := hk
   obtain ⟨s1, s2⟩ := vA e3
   refine ⟨b', cap', C, e0, g1, g2, g3, g4, g5, g6, by rw [s1]; exact g7, fun k => by rw [keepH b' (by rw [m_ e1]; simp [mT, g1, Value.ownBlock])]; exact g8 k, fun j v hv => ?_⟩
   obtain ⟨k1, c0, k2, rfl⟩ := s2 j v hv
   exact ⟨k1, Gy i1 l st (g9 j c0 k2).2⟩
  | map es =>
   simp only [pA] at e2
   cases ha : es.all (fun e => e.2.rX h.length) <;> rw [ha] at e2 <;> cases e2
   simp only [List.all_eq_true] at ha
   obtain ⟨E, clock, g1, g2, g3, g4, hst⟩ := hk
   refine ⟨E, clock, g1, g2, fun k => by rw [show G2.mX id = G1.mX id from rfl, keepH _ (by rw [m_ e1]; rfl)]; exact g3 k, fun j kv hkv => ?_, hst⟩
   obtain ⟨mm, k1, k2, k3, k4⟩ := g4 j kv hkv
   exact ⟨mm, k1, k2, k3.mono hmono, uV l (ha kv (List.mem_of_getElem? hkv)) k4⟩
  | front n sz =>
   cases e2
   rcases hk with ⟨k1, k2⟩ | ⟨b, cap, C, e, k1, k2, k3, k4, k5, k6, k7⟩
   ·exact .inl ⟨k1, k2⟩
   ·exact .inr ⟨b, cap, C, e, k1, k2, k3, k4, k5, k6, fun k hk => by rw [keepH b (by rw [m_ e1]; simp [mT, k1, Value.ownBlock])]; exact k7 k hk⟩
end Hk


namespace Hk
open Go Go.RowKit
theorem vR (L : Nat) (f : kR → kR) : ∀ (ρ pre : List kR) (i : Nat), (unpackFrom L (pre ++ (sZ L i ρ).map f) ρ.length i pre.length).length = ρ.length ∧
  ∀ (j : Nat) (v : kR), (unpackFrom L (pre ++ (sZ L i ρ).map f) ρ.length i pre.length)[j]? = some v → v = .junk ∨ ∃ u, ρ[j]? = some u ∧ v = f u
 | [], pre, i => by simp [unpackFrom]
 | u :: r, pre, i => by
  cases hb : L.testBit i with
  | true =>
   obtain ⟨h1, h2⟩ := vR L f r (pre ++ [f u]) (i + 1)
   have e1 : pre ++ (sZ L i (u :: r)).map f = (pre ++ [f u]) ++ (sZ L (i + 1) r).map f := by simp [sZ, hb]
   have e2 : (pre ++ [f u]).length = pre.length + 1 := by simp
   rw [e2] at h1 h2
   have e3 : ((pre ++ [f u]) ++ (sZ L (i + 1) r).map f).getD pre.length .junk = f u := by simp [List.getD_eq_getElem?_getD]
   rw [e1]
   simp only [List.length_cons, unpackFrom, hb, cond_true, e3]
   refine ⟨by rw [h1], fun j v hv => ?_⟩
   cases j with
   | zero => simp at hv; exact .inr ⟨u, rfl, hv.symm⟩
   | succ j => simpa using h2 j v (by simpa using hv)
  | false =>
   obtain ⟨h1, h2⟩ := vR L f r pre (i + 1)
   simp only [sZ, List.length_cons, unpackFrom, hb, cond_false, List.length_cons]
   refine ⟨by rw [h1], fun j v hv => ?_⟩
   cases j with
   | zero => simp at hv; exact .inl hv.symm
   | succ j => simpa using h2 j v (by simpa using hv)
theorem xU (L : Nat) (x : List kR) : ∀ (n i j : Nat), (unpackFrom L x n i j).length = n
 | 0, _, _ => rfl
 | n + 1, i, j => by unfold unpackFrom; cases L.testBit i <;> simp [xU L x n]
theorem oU (n L : Nat) (x : List kR) : (unpack n L x).length = n := xU L x n 0 0
theorem GN {n L : Nat} {ρ : List kR} (f : kR → kR) (hn : ρ.length = n) (j : Nat) (v : kR) (hv : (unpack n L ((pack L ρ).map f))[j]? = some v) : v = .junk ∨ ∃ u, ρ[j]? = some u ∧ v = f u := by
 subst hn
 have := (vR L f ρ [] 0).2 j v
 simpa [unpack, pack] using this (by simpa [unpack, pack] using hv)
section
variable {J : Act → Prop} {cx : Cx} {ρ : List kR} {h : kT} {kn : List kR → kT → Option R} {ke : Ex → List kR → kT → Option R} {r : R} {G : Gh} {w : World} {a : Act} {Q : Exit → Act → World → Prop} {n L : Nat}
theorem oC.DS {G' : Gh} {h' : kT} (s : oC J G h ρ a) (hn : ρ.length = n) (f : kR → kR) (hf : ∀ v V, lM G h v V → lM G' h' (f v) V) : oC J G' h' (unpack n L ((pack L ρ).map f)) a := by
 refine ⟨by rw [oU, ← hn, s.len], fun j v hv => ?_, s.df⟩
 rcases GN f hn j v hv with rfl | ⟨u, hu, rfl⟩
 ·exact .p _ _ (.junk _)
 ·exact hf u _ (s.rel j u hu)
theorem oC.pack (s : oC J G h ρ a) (hn : ρ.length = n) : oC J G h (unpack n L (pack L ρ)) a := by
 have := s.DS (L := L) hn id fun _ _ r => r
 simpa using this
theorem rP.trans {G' : Gh} {h' : kT} {w' : World} (p : rP J n kn ke r G h w Q) (x : Ext G h w G' h' w') : rP J n kn ke r G' h' w' Q :=
 ⟨fun ρ' h'' G'' w'' a' h1 h2 h3 h4 => p.1 ρ' h'' G'' w'' a' h1 (x.trans h2) h3 h4, fun e ρ' h'' G'' w'' a' h1 h2 h3 h4 => p.2.1 e ρ' h'' G'' w'' a' h1 (x.trans h2) h3 h4,
  fun v ρ' h'' G'' w'' a' V h1 h2 h3 h4 h5 => p.2.2 v ρ' h'' G'' w'' a' V h1 (x.trans h2) h3 h4 h5⟩
theorem rP.pack {r0 : R} (hn : r0.1 = .normal → kn (unpack n L r0.2.1) r0.2.2 = some r) (he : ∀ e, r0.1 = e → e ≠ .normal → ke e (unpack n L r0.2.1) r0.2.2 = some r) (p : rP J n kn ke r G h w Q) :
  rP J n (Eo L) (En L) r0 G h w Q := by
 refine ⟨fun ρ' h' G' w' a' h1 h2 h3 h4 h5 => ?_, fun e ρ' h' G' w' a' h1 h2 h3 h4 h5 => ?_, fun v ρ' h' G' w' a' V h1 h2 h3 h4 h5 => ?_⟩
 ·cases h1
  exact p.1 _ h' G' w' a' (hn rfl) h2 h3 (h4.pack h5) (oU _ _ _)
 ·cases h1
  cases e with
  | exit id => exact p.2.1 (.exit id) _ h' G' w' a' (he _ rfl (by simp)) h2 h3 (h4.pack h5) (oU _ _ _)
  | ret => exact p.2.1 .ret _ h' G' w' a' (he _ rfl (by simp)) h2 h3 (h4.pack h5) (oU _ _ _)
  | _ => trivial
 ·cases h1
  exact p.2.2 v _ h' G' w' a' V (he _ rfl (by simp)) h2 h3 h4 h5
theorem rP.Wf {j : Bool} {r0 : R} (hn : r0.1 = .normal → kn (unpack n L r0.2.1) r0.2.2 = some r) (he : ∀ e, r0.1 = e → e ≠ .normal → ke e (unpack n L r0.2.1) r0.2.2 = some r) (p : rP J n kn ke r G h w Q) :
  rP J n (BL j h.length L .normal) (BL j h.length L) r0 G h w Q := by
 cases j with
 | false => exact rP.pack hn he p
 | true =>
  refine ⟨fun ρ' h' G' w' a' h1 h2 h3 h4 h5 => ?_, fun e ρ' h' G' w' a' h1 h2 h3 h4 h5 => ?_, fun v ρ' h' G' w' a' V h1 h2 h3 h4 h5 => ?_⟩
  all_goals
   unfold BL lC at h1
   simp only [Option.map_eq_some_iff] at h1
   obtain ⟨h9, ht, rfl⟩ := h1
   obtain ⟨G3, i3, x3, hlen3, hrel, _⟩ := vI h2 h3 ht
  ·exact p.1 _ h9 G3 w' a' (hn rfl) x3 i3 (h4.DS h5 _ hrel) (oU _ _ _)
  ·cases e with
   | exit id => exact p.2.1 (.exit id) _ h9 G3 w' a' (he _ rfl (by simp [Ex.oM])) x3 i3 (h4.DS h5 _ hrel) (oU _ _ _)
   | ret => exact p.2.1 .ret _ h9 G3 w' a' (he _ rfl (by simp [Ex.oM])) x3 i3 (h4.DS h5 _ hrel) (oU _ _ _)
   | _ => trivial
  ·exact p.2.2 _ _ h9 G3 w' a' V (he _ rfl (by simp [Ex.oM])) x3 i3 (hrel _ _ h4) h5
theorem rP.inBlock {id : Nat} (p : rP J n kn ke r G h w Q) : rP J n kn (fun e ρ' h' => e.inBlock id (kn ρ' h') fun e => ke e ρ' h') r G h w (Exit.inBlock id Q) := by
 refine ⟨p.1, fun e ρ' h' G' w' a' h1 h2 h3 h4 h5 => ?_, fun v ρ' h' G' w' a' V h1 h2 h3 h4 h5 => p.2.2 v ρ' h' G' w' a' V h1 h2 h3 h4 h5⟩
 cases e with
 | exit j =>
  simp only [Ex.inBlock] at h1
  simp only [Exit.inBlock]
  cases hj : j == id with
  | true =>
   rw [hj] at h1
   rw [if_pos (by simpa using hj)]
   exact p.1 ρ' h' G' w' a' h1 h2 h3 h4 h5
  | false =>
   rw [hj] at h1
   rw [if_neg (by simpa using hj)]
   exact p.2.1 (.exit j) ρ' h' G' w' a' h1 h2 h3 h4 h5
 | ret => exact p.2.1 .ret ρ' h' G' w' a' h1 h2 h3 h4 h5
 | _ => trivial
def Ke (lp : (List kR × kT → Option R) → List kR × kT → Option R) : Prop := ∀ F s r, lp F s = some r → ∃ n, p_ n F s = some r
theorem LU {v : kR} {t e : Option R} (hb : lG v t e = some r) : ∃ b, v = .bool b ∧ (if b then t else e) = some r := by
 unfold lG at hb
 split at hb
 ·rename_i b; exact ⟨b, rfl, by cases b <;> exact hb⟩
 ·cases hb
def SO (J : Act → Prop) : Code → Prop
 | .region _ ops _ => LJ J ops.toList
 | .seq a b => SO J a ∧ SO J b
 | .cond _ a b => SO J a ∧ SO J b
 | .block _ c => SO J c
 | .loop c => SO J c
 | .scope c => SO J c
 | _ => True
theorem rP.scope (p : rP J n kn ke r G h w Q) : rP J n kn ke r G h w (Exit.noGoto Q) := by
 refine ⟨fun ρ' h' G' w' a' h1 h2 h3 h4 h5 => p.1 ρ' h' G' w' a' h1 h2 h3 h4 h5, fun e ρ' h' G' w' a' h1 h2 h3 h4 h5 => ?_, fun v ρ' h' G' w' a' V h1 h2 h3 h4 h5 => p.2.2 v ρ' h' G' w' a' V h1 h2 h3 h4 h5⟩
 have := p.2.1 e ρ' h' G' w' a' h1 h2 h3 h4 h5
 cases e <;> first | exact this | trivial
theorem tV (hm : cx.P.follows .mixedOrders = true) (hX : sR cx.P cx.A) (hK : qI cx.P cx.A cx.K) (hlp : Ke cx.lp) : ∀ (c : Code) (L : Nat) (ρ : List kR) (h : kT) (kn : List kR → kT → Option R) (ke : Ex → List kR → kT → Option R) (r : R) (G : Gh) (w : World) (a : Act) (Q : Exit → Act → World → Prop), SO J c →
  evalCode cx c L ρ h kn ke = some r → Inv G h w → p8 cx.A G.H → oC J G h ρ a → ρ.length = cx.n → rP J cx.n kn ke r G h w Q → c.wp cx.P Q a w := by
 intro c
 induction c with
 | skip =>
  intro L ρ h kn ke r G w a Q hJ hb i gl s hn hk
  exact wp_skip (hk.1 ρ h G w a hb (Ext.refl G h w) i s hn)
 | region id ops draw =>
  intro L ρ h kn ke r G w a Q hJ hb i gl s hn hk
  refine Dz hJ hm hX hK hb i gl s hn hk.1 fun v h' G' w' a' V e1 e2 e3 e4 e5 => ?_
  cases hp : cx.pan with
  | true => rw [hp] at e1; exact hk.2.2 v ρ h' G' w' a' V e1 e2 e3 e4 e5
  | false => rw [hp] at e1; cases e1
 | seq x y ihx ihy =>
  intro L ρ h kn ke r G w a Q hJ hb i gl s hn hk
  refine wp_seq (ihx _ ρ h _ _ r G w a _ hJ.1 hb i gl s hn ⟨fun ρ' h' G' w' a' h1 h2 h3 h4 h5 => ?_, fun e ρ' h' G' w' a' h1 h2 h3 h4 h5 => ?_, fun v ρ' h' G' w' a' V h1 h2 h3 h4 h5 => hk.2.2 v ρ' h' G' w' a' V h1 h2 h3 h4 h5⟩)
  ·exact ihy L ρ' h' kn ke r G' w' a' Q hJ.2 h1 h3 (gl.mono h2.hmono) h4 h5 (hk.trans h2)
  ·have := hk.2.1 e ρ' h' G' w' a' h1 h2 h3 h4 h5
   cases e <;> first | exact this | trivial
 | cond c x y ihx ihy =>
  intro L ρ h kn ke r G w a Q hJ hb i gl s hn hk
  have fin : ∀ {v : kR} {t e : Option R} {r : R} {kn : List kR → kT → Option R} {ke : Ex → List kR → kT → Option R}, v = pZ cx.A ρ c → lG v t e = some r → t = evalCode cx x L ρ h kn ke → e = evalCode cx y L ρ h kn ke → rP J cx.n kn ke r G h w Q → (Code.cond c x y).wp cx.P Q a w := by
   intro v t e r kn ke hv hc ht he hk
   obtain ⟨b, rfl, hb⟩ := LU hc
   have hcv := (hv ▸ s.eval gl c).tT
   subst ht; subst he
   refine wp_cond hcv ?_
   cases b with
   | true => exact ihx L ρ h kn ke r G w a Q hJ.1 hb i gl s hn hk
   | false => exact ihy L ρ h kn ke r G w a Q hJ.2 hb i gl s hn hk
  simp only [evalCode] at hb
  cases hf : tI x && tI y with
  | true =>
   rw [hf] at hb
   simp only [cond_true] at hb
   obtain ⟨r0, hr0, hk0⟩ := Option.bind_eq_some_iff.1 hb
   refine fin rfl hr0 rfl rfl (.Wf (fun he => ?_) (fun e he hne => ?_) hk)
   ·rw [he] at hk0
    cases hl : cx.pan || (leaves [] x || leaves [] y) <;> rw [hl] at hk0 <;> exact hk0
   ·rw [he] at hk0
    cases hl : cx.pan || (leaves [] x || leaves [] y) <;> rw [hl] at hk0
    ·cases e <;> first | exact absurd rfl hne | cases hk0
    ·cases e <;> first | exact absurd rfl hne | exact hk0
  | false =>
   rw [hf] at hb
   exact fin rfl hb rfl rfl hk
 | block id c ih =>
  intro L ρ h kn ke r G w a Q hJ hb i gl s hn hk
  refine wp_block ?_
  simp only [evalCode] at hb
  cases hf : decide (2 ≤ x9 id c + bif tI c then 1 else 0) with
  | true =>
   rw [hf] at hb
   simp only [cond_true] at hb
   obtain ⟨r0, hr0, hk0⟩ := Option.bind_eq_some_iff.1 hb
   refine ih L ρ h _ _ r0 G w a _ hJ hr0 i gl s hn (.Wf (fun he => ?_) (fun e he hne => ?_) (hk.inBlock (id := id)))
   ·rw [he] at hk0; exact hk0
   ·rw [he] at hk0; exact hk0
  | false =>
   rw [hf] at hb
   exact ih L ρ h _ _ r G w a _ hJ hb i gl s hn hk.inBlock
 | scope c ih =>
  intro L ρ h kn ke r G w a Q hJ hb i gl s hn hk
  exact wp_scope_straight (ih L ρ h kn ke r G w a _ hJ hb i gl s hn hk.scope)
 | label l =>
  intro L ρ h kn ke r G w a Q hJ hb i gl s hn hk
  exact wp_label (hk.1 ρ h G w a hb (Ext.refl G h w) i s hn)
 | loop c ih =>
  intro L ρ h kn ke r G w a Q hJ hb i gl s hn hk
  simp only [evalCode] at hb
  obtain ⟨r0, hr0, hk0⟩ := Option.bind_eq_some_iff.1 hb
  obtain ⟨n, hloop⟩ := hlp _ _ _ hr0
  refine wp_loop_rounds n ?_
  have key : ∀ (n : Nat) (G' : Gh) (h' : kT) (w' : World) (a' : Act) (x : List kR), p_ n (fun s => evalCode cx c (L ||| ue cx.full c) (unpack cx.n (L ||| ue cx.full c) s.1) s.2 (AG cx.lkp h.length (L ||| ue cx.full c) .normal) (AG cx.lkp h.length (L ||| ue cx.full c))) (x, h') = some r0 → (cx.lkp = true ∨ h'.length = h.length) →
    Ext G h w G' h' w' → Inv G' h' w' → oC J G' h' (unpack cx.n (L ||| ue cx.full c) x) a' → Code.rounds cx.P c Q n a' w' := by
   intro n
   induction n with
   | zero => intro G' h' w' a' x hl; simp [p_] at hl
   | succ n ihn =>
    intro G' h' w' a' x hl hlen x1 i1 s1
    simp only [p_] at hl
    obtain ⟨r1, hr1, hl⟩ := Option.bind_eq_some_iff.1 hl
    rw [rounds_succ]
    have round : ∀ (e : Ex) (ρ' : List kR) (h'' : kT) (G2 : Gh) (w2 : World) (a2 : Act), AG cx.lkp h.length (L ||| ue cx.full c) e ρ' h'' = some r1 → Ext G' h' w' G2 h'' w2 → Inv G2 h'' w2 → oC J G2 h'' ρ' a2 → ρ'.length = cx.n →
      ∃ G3 h3 f e3, r1 = (e3, (pack (L ||| ue cx.full c) ρ').map f, h3) ∧ Inv G3 h3 w2 ∧ Ext G' h' w' G3 h3 w2 ∧ (cx.lkp = true ∨ h3.length = h.length) ∧ (∀ v V, lM G2 h'' v V → lM G3 h3 (f v) V) ∧
       (e = .normal → e3 = .normal) ∧ (∀ id, e = .exit id → e3 = .exit id) ∧ (e = .ret → e3 = .ret) := by
     intro e ρ' h'' G2 w2 a2 e1 e2 e3 e4 e5
     cases hlk : cx.lkp with
     | true =>
      rw [hlk] at e1
      simp only [AG, Option.some.injEq] at e1
      exact ⟨G2, h'', id, e, by rw [← e1]; simp, e3, e2, .inl rfl, fun _ _ h => h, fun h => h, fun _ h => h, fun h => h⟩
     | false =>
      have hlen : h'.length = h.length := by
       rcases hlen with h1 | h1
       ·rw [hlk] at h1; cases h1
       ·exact h1
      rw [hlk] at e1
      simp only [AG] at e1
      unfold endRound lC at e1
      simp only [Option.map_eq_some_iff] at e1
      obtain ⟨h3, ht, rfl⟩ := e1
      rw [← hlen] at ht
      obtain ⟨G3, i3, x3, hlen3, hrel, _⟩ := vI e2 e3 ht
      rw [hlen] at hrel
      exact ⟨G3, h3, (·.oM h.length h''), e.oM h.length h'', rfl, i3, x3, .inr (hlen3.trans hlen), hrel, fun h => by rw [h]; rfl, fun _ h => by rw [h]; rfl, fun h => by rw [h]; rfl⟩
    refine ih _ _ h' _ _ r1 G' w' a' _ hJ hr1 i1 (gl.mono x1.hmono) s1 (oU _ _ _) ⟨fun ρ' h'' G2 w2 a2 e1 e2 e3 e4 e5 => ?_, fun e ρ' h'' G2 w2 a2 e1 e2 e3 e4 e5 => ?_, fun v ρ' h'' G2 w2 a2 V e1 e2 e3 e4 e5 => ?_⟩
    ·obtain ⟨G3, h3, f, ee, rfl, i3, x3, hl3, hrel, q1, _, _⟩ := round _ _ _ _ _ _ e1 e2 e3 e4 e5
     obtain rfl := q1 rfl
     exact ihn G3 h3 w2 a2 _ hl hl3 (x1.trans x3) i3 (e4.DS e5 _ hrel)
    ·obtain ⟨G3, h3, f, ee, rfl, i3, x3, hl3, hrel, _, q2, q3⟩ := round _ _ _ _ _ _ e1 e2 e3 e4 e5
     have s3 := e4.DS (L := L ||| ue cx.full c) e5 _ hrel
     cases e with
     | exit id =>
      obtain rfl := q2 id rfl
      simp only [Ex.lY, Option.some.injEq] at hl
      subst hl
      exact hk.2.1 (.exit id) _ h3 G3 w2 a2 hk0 (x1.trans x3) i3 s3 (oU _ _ _)
     | ret =>
      obtain rfl := q3 rfl
      simp only [Ex.lY, Option.some.injEq] at hl
      subst hl
      exact hk.2.1 .ret _ h3 G3 w2 a2 hk0 (x1.trans x3) i3 s3 (oU _ _ _)
     | _ => trivial
    ·cases hlk : cx.lkp with
     | true =>
      rw [hlk] at e1
      simp only [AG, Option.some.injEq] at e1
      subst e1
      simp only [Ex.lY, Option.some.injEq] at hl
      subst hl
      exact hk.2.2 _ _ _ G2 w2 a2 V hk0 (x1.trans e2) e3 e4 e5
     | false =>
      have hlen : h'.length = h.length := by
       rcases hlen with h1 | h1
       ·rw [hlk] at h1; cases h1
       ·exact h1
      rw [hlk] at e1
      simp only [AG] at e1
      unfold endRound lC at e1
      simp only [Option.map_eq_some_iff] at e1
      obtain ⟨h3, ht, rfl⟩ := e1
      rw [← hlen] at ht
      obtain ⟨G3, i3, x3, hlen3, hrel, _⟩ := vI e2 e3 ht
      rw [hlen] at hrel
      simp only [Ex.oM, Ex.lY, Option.some.injEq] at hl
      subst hl
      exact hk.2.2 _ _ h3 G3 w2 a2 V hk0 (x1.trans x3) i3 (hrel _ _ e4) e5
  exact key n G h w a _ hloop (.inr rfl) (Ext.refl G h w) i (s.pack hn)
 | exit id =>
  intro L ρ h kn ke r G w a Q hJ hb i gl s hn hk
  exact wp_exit (hk.2.1 (.exit id) ρ h G w a hb (Ext.refl G h w) i s hn)
 | ret =>
  intro L ρ h kn ke r G w a Q hJ hb i gl s hn hk
  exact wp_ret (hk.2.1 .ret ρ h G w a hb (Ext.refl G h w) i s hn)
 | _ => intro L ρ h kn ke r G w a Q _ hb; simp [evalCode] at hb
theorem G5 {P : Program} {x : ResultVar} {v : kR} (hb : vW P ρ h x = some v) (i : Inv G h w) (s : oC J G h ρ a) :
  ∃ V, (match x with | .tmp t => (pure (a.tmps.getD t undef) : Sem Value) | .cell b t => do loadVar t (← asAddr (a.tmps.getD b undef))).run P w = .ok V w ∧ lM G h v V := by
 cases x with
 | tmp t => simp only [vW, Option.some.injEq] at hb; subst hb; exact ⟨_, Sem.run_pure .., s.get t⟩
 | cell b t =>
  simp only [vW] at hb
  split at hb
  ·rename_i g n hg hn
   have hx := s.get b
   obtain ⟨V, h1, h2⟩ := D_ (P := P) hg hn i hb hx
   refine ⟨V, ?_, h2⟩
   have : ∃ A, a.tmps.getD b undef = .pointer (some A) := by
    generalize ρ.getD b .junk = x at hb hx
    generalize a.tmps.getD b undef = X at hx
    unfold kV at hb
    split at hb
    ·have hp := hx.AW
     cases hp with | pptr cs b off F => exact ⟨_, rfl⟩
    ·obtain ⟨rfl, _⟩ := hx.xM; exact ⟨_, rfl⟩
    ·obtain ⟨_, rfl, _⟩ := hx.A_; exact ⟨_, rfl⟩
    ·cases hb
   obtain ⟨A, hA⟩ := this
   rw [hA] at h1
   dsimp only
   rw [hA]
   simpa [Instr.loadAt, Instr.sureAddr, asAddr] using h1
  ·cases hb
theorem x_ {P : Program} {fn : Func} {vs : List kR} (hb : fn.results.toList.mapM (vW P ρ h) = some vs) (i : Inv G h w) (s : oC J G h ρ a) :
  ∃ V, (results fn a.tmps).run P w = .ok V w ∧ lM G h (oneOf vs) V := by
 have key : ∀ (l : List ResultVar) (vs : List kR), l.mapM (vW P ρ h) = some vs → ∃ Vs : List Value, (l.mapM (fun x : ResultVar => match x with | .tmp t => (pure (a.tmps.getD t undef) : Sem Value) | .cell b t => do loadVar t (← asAddr (a.tmps.getD b undef)))).run P w = .ok Vs w ∧
   vs.length = Vs.length ∧ ∀ (j : Nat) (v : kR), vs[j]? = some v → lM G h v (Vs.getD j undef) := by
  intro l
  induction l with
  | nil => intro vs hv; simp at hv; subst hv; exact ⟨[], by simp [Sem.run_pure], rfl, by simp⟩
  | cons x l ih =>
   intro vs hv
   simp only [List.mapM_cons, Option.bind_eq_bind, Option.bind_eq_some_iff] at hv
   obtain ⟨v, hv1, us, hus, hv⟩ := hv
   simp only [Option.pure_def, Option.some.injEq] at hv; subst hv
   obtain ⟨V, h1, h2⟩ := G5 hv1 i s
   obtain ⟨Vs, h3, h4, h5⟩ := ih us hus
   refine ⟨V :: Vs, ?_, by simp [h4], fun j u hu => ?_⟩
   ·simp only [List.mapM_cons, Sem.run_bind, h1, Result.andThen_ok, h3, Sem.run_pure]
   ·cases j with
    | zero => simp at hu; subst hu; exact h2
    | succ j => simpa using h5 j u (by simpa using hu)
 obtain ⟨Vs, h1, h2, h3⟩ := key _ _ hb
 have h4 : (fn.results.mapM (fun x : ResultVar => match x with | .tmp t => (pure (a.tmps.getD t undef) : Sem Value) | .cell b t => do loadVar t (← asAddr (a.tmps.getD b undef)))).run P w = .ok Vs.toArray w := by
  rw [Array.mapM_eq_mapM_toList, map_eq_pure_bind]
  simp only [Sem.run_bind, h1, Result.andThen_ok, Sem.run_pure]
 refine ⟨if h : Vs.toArray.size = 1 then Vs.toArray[0] else .tuple Vs.toArray, ?_, ?_⟩
 ·have e : results fn a.tmps = (fn.results.mapM (fun x : ResultVar => match x with | .tmp t => (pure (a.tmps.getD t undef) : Sem Value) | .cell b t => do loadVar t (← asAddr (a.tmps.getD b undef)))).bind fun vs => (pure (if h : vs.size = 1 then vs[0] else .tuple vs) : Sem Value) := rfl
  rw [e]
  show (Bind.bind _ _ : Sem Value).run P w = _
  rw [Sem.run_bind, h4, Result.andThen_ok, Sem.run_pure]
 ·match vs, Vs, h2, h3 with
  | [v], [V], _, h3 => simpa [oneOf] using h3 0 v rfl
  | [], [], _, _ => exact lM.undef
  | u :: v :: vs, U :: V :: Vs, h2, h3 =>
   have : oneOf (u :: v :: vs) = .tuple (u :: v :: vs) := rfl
   rw [this]
   simp only [List.size_toArray, List.length_cons, Nat.add_eq_right, Nat.add_one_ne_zero, reduceDIte]
   refine .tuple _ _ (by simpa using h2) fun j x hx => ?_
   have := h3 j x hx
   rw [List.getD_eq_getElem?_getD] at this
   rwa [Array.getD_eq_getD_getElem?, List.getElem?_toArray]
  | [], _ :: _, h2, _ => simp at h2
  | _ :: _, [], h2, _ => simp at h2
  | [_], _ :: _ :: _, h2, _ => simp at h2
  | _ :: _ :: _, [_], h2, _ => simp at h2
end
end Hk

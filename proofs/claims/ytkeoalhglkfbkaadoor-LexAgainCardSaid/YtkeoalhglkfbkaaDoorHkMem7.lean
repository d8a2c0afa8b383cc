/-
  APPEND: the operation.
-/
import Derived.Test.YtkeoalhglkfbkaaDoorHkMem6
set_option linter.unusedVariables false
set_option linter.unusedSimpArgs false
namespace Hk
open Go Go.RowKit

section
variable {P : Program} {G : Gh} {h : Heap} {w : World} {x y v : AVal} {X Y V : Value}

/-- The rows that a token's holder has, as cells of its block. -/
theorem own_cells (i : Inv G h w) {rows : List (List AVal)} {id n sz : Nat} (hx : RelV G h (.slice rows (.own id)) X) (hid : h[id]? = some (.front n sz)) (hlen : rows.length = n) :
    X = G.cur id ∧ (∀ r ∈ rows, r.length = sz) ∧ ((n = 0 ∧ G.cur id = .slice none 0 0) ∨ ∃ b cap C e, G.cur id = .slice (some ⟨b, 0, none⟩) n cap ∧ w.heap[b]? = some (.cells C e (0, 0)) ∧
      n ≤ cap ∧ cap ≤ maxLen ∧ C.size = cap * sz ∧ 0 < sz ∧ (∀ k, n * sz ≤ k → G.H b k = none) ∧
      ∀ (i' j : Nat) (row : List AVal) (c : AVal), rows[i']? = some row → row[j]? = some c → ∃ u, (C.toList.take (n * sz))[i' * sz + j]? = some u ∧ RelP G.H c u ∧ c.cellOk = true) := by
  cases hx with
  | p _ _ hp => cases hp
  | own _ _ n' sz' _ hp hf hn hr hc =>
    rw [hid] at hf
    simp only [Option.some.injEq, ABlk.front.injEq] at hf
    obtain ⟨rfl, rfl⟩ := hf
    have hX := hc hlen
    refine ⟨hX, hr, ?_⟩
    rcases i.blk id _ hid with h1 | ⟨b, cap, C, e, h1, h2, h3, h4, h5, h50, h6⟩
    · exact .inl h1
    · refine .inr ⟨b, cap, C, e, h1, h2, h3, h4, h5, h50, h6, fun i' j row c hi hj => ?_⟩
      rw [hX, h1] at hp
      generalize hV : Value.slice (some ⟨b, 0, none⟩) n cap = V0 at hp
      cases hp with
      | slice0 a cap => simp at hi
      | slice rows b' off cap' sz2 F hr2 hc2 hH hk hV2 =>
        simp only [Value.slice.injEq, Option.some.injEq, Addr.mk.injEq] at hV
        obtain ⟨⟨rfl, rfl, _⟩, hn', rfl⟩ := hV
        have hs : sz2 = sz := by rw [← hr2 row (List.mem_of_getElem? hi), hr row (List.mem_of_getElem? hi)]
        subst hs
        have hcell := i.ok _ _ _ (hH i' j row c hi hj)
        rw [cell_of w _ _ h2, Nat.zero_add] at hcell
        have hlt : i' * sz2 + j < n * sz2 := by
          have hi' : i' < rows.length := (List.getElem?_eq_some_iff.1 hi).1
          have hj' : j < sz2 := by rw [← hr2 row (List.mem_of_getElem? hi)]; exact (List.getElem?_eq_some_iff.1 hj).1
          calc i' * sz2 + j < i' * sz2 + sz2 := by omega
            _ = (i' + 1) * sz2 := by rw [Nat.add_mul]; omega
            _ ≤ n * sz2 := Nat.mul_le_mul_right _ (by omega)
        refine ⟨F (i' * sz2 + j), ?_, hV2 i' j row c hi hj, hk i' j row c hi hj⟩
        rw [List.getElem?_take, if_pos hlt, Array.getElem?_toList]
        exact hcell

theorem run_append_zero {t ty e : TypeId} {ti : TypeInfo} (ht : P.underlying t = some (.slice e)) (hi : P.info? e = some ti) (a b : Option Addr) (n cap c : Nat) (hn : n ≤ cap) :
    (Builtin.append_ #[t, t] ty #[.slice a n cap, .slice b 0 c]).run P w = .ok (.slice a n cap) w := by
  cases a <;> cases b <;> simp [Builtin.append_, run_underlying ht, Go.sizeOf, Go.typeInfo, hi, Builtin.lenOf, Builtin.firstCells, hn, loadCells, loadCellsFrom, storeCells, Sem.run_pure]

/-- A token for a nil slice. -/
theorem Inv.pushTok (i : Inv G h w) : ∃ G', Inv G' (h ++ [.front 0 0]) w ∧ Ext G h w G' (h ++ [.front 0 0]) w ∧ G'.cur h.length = .slice none 0 0 ∧ G'.H = G.H := by
  let G' : Gh := { G with cur := fun j => if j = h.length then .slice none 0 0 else G.cur j }
  have key := i.push (G' := G') (ext := [.front 0 0]) (w' := w) rfl rfl rfl (Nat.le_refl _) (fun _ _ => rfl) (fun _ _ => rfl) (fun id hid => if_neg (by omega)) (fun _ _ _ h => h) (fun _ _ _ => rfl)
    (fun b k v hb hv => by have := i.H_lt (b := b) (k := k) (v := v) hv; omega)
    (fun j bl hj m => by
      cases j with
      | zero => simp at hj; subst hj; exact .inl ⟨rfl, if_pos rfl⟩
      | succ j => simp at hj)
    (fun j bl b hj ho => by
      cases j with
      | zero =>
        simp at hj; subst hj
        have ho : Value.ownBlock (if h.length + 0 = h.length then .slice none 0 0 else G.cur (h.length + 0)) = some b := ho
        rw [if_pos (Nat.add_zero _)] at ho; cases ho
      | succ j => simp at hj)
    (fun j j' bl bl' b hj hj' _ _ => by
      have h1 : j < 1 := by simpa using (List.getElem?_eq_some_iff.1 hj).1
      have h2 : j' < 1 := by simpa using (List.getElem?_eq_some_iff.1 hj').1
      omega)
  exact ⟨G', key.1, key.2, if_pos rfl, rfl⟩

theorem pushTok_rel {G' : Gh} (hc : G'.cur h.length = .slice none 0 0) : RelV G' (h ++ [.front 0 0]) (.slice [] (.own h.length)) (.slice none 0 0) :=
  .own [] h.length 0 0 _ (.slice0 none 0) (by simp) (Nat.le_refl _) (by simp) (fun _ => hc.symm)

theorem aappend_sound {t ty e : TypeId} {sz bytes : Nat} {z r : AVal} {h' : Heap} (i : Inv G h w) (ht : P.underlying t = some (.slice e)) (hn : sizeT P e = some sz) (hby : bytesT P e = some bytes)
    (hz : zeroT P e = some z) (hzj : z.isJunk = false) (hzl : z.cells.length = sz) (hsz : sz ≠ 0) (hb : aappend sz bytes h x y = some (r, h')) (hx : RelV G h x X) (hy : RelV G h y Y) :
    ∃ V w' G', (Builtin.append_ #[t, t] ty #[X, Y]).run P w = .ok V w' ∧ Inv G' h' w' ∧ Ext G h w G' h' w' ∧ RelV G' h' r V := by
  obtain ⟨ti, hti, hts, htb, Z, hzz, hZs⟩ : ∃ ti, P.info? e = some ti ∧ ti.size = sz ∧ ti.bytes = bytes ∧ ∃ Z, ti.zero = some Z ∧ Z.cells.size = sz := by
    unfold sizeT at hn; unfold bytesT at hby; unfold zeroT at hz
    cases hi : P.info? e with
    | none => simp [hi] at hn
    | some ti =>
      simp [hi] at hn hby hz
      obtain ⟨Z, hZ1, hZ2⟩ := hz
      refine ⟨ti, rfl, hn, hby, Z, hZ1, ?_⟩
      subst hZ2
      rw [← hzl]; exact (cells_rel hzj (relV_ofConst G h Z)).1.symm
  unfold aappend at hb
  split at hb
  · -- the holder of a token
    rename_i rows id new hnew
    obtain ⟨a, news, src⟩ := arowsS_sound i hnew hy
    obtain ⟨capY, hYf⟩ := src.form
    split at hb
    · rename_i n sz0 hid
      split at hb
      case isFalse => cases hb
      rename_i hcond
      obtain ⟨hlen, hszz, hbytes, hsmall⟩ := hcond
      obtain ⟨hX, hrl, hcur⟩ := own_cells i hx hid hlen
      split at hb
      · rename_i hm
        simp only [Option.some.injEq, Prod.mk.injEq] at hb
        obtain ⟨rfl, rfl⟩ := hb
        refine ⟨X, w, G, ?_, i, Ext.refl G h w, hx⟩
        rw [hYf, hm]
        rcases hcur with ⟨_, hc⟩ | ⟨b, cap, C, e0, hc, _, hle, _⟩
        · rw [hX, hc]; exact run_append_zero ht hti none a 0 0 capY (Nat.le_refl _)
        · rw [hX, hc]; exact run_append_zero ht hti _ a n cap capY hle
      · rename_i hm
        simp only [Option.some.injEq, Prod.mk.injEq] at hb
        obtain ⟨rfl, rfl⟩ := hb
        -- where the new elements lie
        have hposn : 0 < news.length := by rw [src.len]; exact Nat.mul_pos (by omega) (by omega)
        obtain ⟨ad, had, _⟩ := src.at_ 0 _ (List.getElem?_eq_getElem hposn)
        subst had
        have hnews : ∀ j u, news[j]? = some u → w.cell? (ad.add j) = some u := fun j u hu => by
          obtain ⟨ad', e1, e2⟩ := src.at_ j u hu; cases e1; exact e2
        have hone := src.one
        have hnl : news.length = new.length * ti.size := by rw [hts]; exact src.len
        -- what the result's relation wants
        have fin : ∀ (bb cap' : Nat) (xs : List Value) (G' : Gh), xs.length = n * sz → cap' ≥ n + new.length → Mono G h G' (h.set id (.front (n + new.length) sz)) →
            (∀ (k : Nat) u, (xs ++ news)[k]? = some u → G'.H bb k = some u) → G'.cur id = .slice (some ⟨bb, 0, none⟩) (n + new.length) cap' →
            (∀ (i' j : Nat) (row : List AVal) (c : AVal), rows[i']? = some row → row[j]? = some c → ∃ u, xs[i' * sz + j]? = some u ∧ RelP G.H c u ∧ c.cellOk = true) →
            (∀ r ∈ rows, r.length = sz) →
            RelV G' (h.set id (.front (n + new.length) sz)) (.slice (rows ++ new) (.own id)) (.slice (some ⟨bb, 0, none⟩) (n + new.length) cap') := by
          intro bb cap' xs G' hxl hc hm' hH hcur' hcells hrl'
          have hidl : id < h.length := (List.getElem?_eq_some_iff.1 hid).1
          have hrl2 : ∀ r ∈ rows ++ new, r.length = sz := fun r hr => (List.mem_append.1 hr).elim (hrl' r) (src.rlen r)
          have hlen2 : (rows ++ new).length = n + new.length := by rw [List.length_append, hlen]
          refine .own _ id (n + new.length) sz _ ?_ (by simp [hidl]) (by omega) hrl2 (fun _ => hcur'.symm)
          have := relP_block (H := G'.H) (rows := rows ++ new) (sz := sz) (b := bb) (cap := cap') (all := xs ++ news) hrl2 (by omega) hH
            (rel_append (by rw [hlen]; exact hxl) hrl' (fun i' j row c h1 h2 => by obtain ⟨u, e1, e2, e3⟩ := hcells i' j row c h1 h2; exact ⟨u, e1, e2.mono hm'.hmono, e3⟩)
              (fun i' j row c h1 h2 => by obtain ⟨u, e1, e2, e3⟩ := src.rel i' j row c h1 h2; exact ⟨u, e1, e2.mono hm'.hmono, e3⟩))
          rwa [hlen2] at this
        rw [hX, hYf]
        rcases hcur with ⟨rfl, hc⟩ | ⟨b, cap, C, e0, hc, hC, hle, hmx, hCs, hs0, hHn, hcells⟩
        · -- nil so far
          rw [hc]
          have hrun := run_append_nil (P := P) w t ty e ti Z ht hti hzz ad new.length capY news hnl hnews (by omega) (by omega) (by rw [htb]; rw [Nat.zero_add] at hbytes; omega)
          have hcapg := grownCap_ge w new.length 0 e
          have hcapm := grownCap_le_maxLen w new.length 0 e (by simp only [maxLen]; omega)
          obtain ⟨G', g1, g2, g3, g4, g5⟩ := i.grow (id := id) (n := 0) (n' := 0 + new.length) (sz := sz0) (sz' := sz) (bb := w.heap.size) (cap' := grownCap w new.length 0 e) (all := news)
            (w' := w.drew.alloc (.cells (news.toArray ++ Builtin.zeroCells Z.cells (grownCap w new.length 0 e - new.length)) e)) hid (by omega) (by omega) rfl rfl rfl (by simp)
            (fun k hk _ _ => heap_alloc_lt w.drew _ k hk) (.inl (Nat.le_refl _)) (heap_alloc_new w.drew _) (by omega) hcapm
            (by simp only [Array.size_append, List.size_toArray, size_zeroCells, hZs, src.len, ← Nat.add_mul]; congr 1; omega)
            (by omega) (by rw [src.len]; simp) (fun k u hu => by
              rw [Array.getElem?_append_left (by simpa using (List.getElem?_eq_some_iff.1 hu).1)]; simpa using hu)
            (fun k v hv => by have := i.H_lt hv; omega)
          refine ⟨_, _, G', hrun, g1, g2, ?_⟩
          have := fin w.heap.size (grownCap w new.length 0 e) [] G' (by simp) (by omega) g2.toMono (by simpa using g4) g5 (fun i' j row c h1 _ => by
            have : rows = [] := List.eq_nil_of_length_eq_zero hlen
            subst this; simp at h1) (fun r hr => by
            have : rows = [] := List.eq_nil_of_length_eq_zero hlen
            subst this; cases hr)
          simpa using this
        · have hs : sz0 = sz := by omega
          rw [hc]
          by_cases hroom : n + new.length ≤ cap
          · subst hs
            have hfit : n * ti.size + news.length ≤ C.size := by rw [hts, src.len, hCs, ← Nat.add_mul]; exact Nat.mul_le_mul_right _ hroom
            have hf := run_firstCells_some (P := P) w ti.size new.length ad new.length capY news hnl hnews
            have hst := run_storeCells_at P b (n * ti.size) e0 news 0 C w hC (by simpa using hfit) hone
            simp only [Nat.add_zero] at hst
            have hrun : (Builtin.append_ #[t, t] ty #[.slice (some ⟨b, 0, none⟩) n cap, .slice (some ad) new.length capY]).run P w =
                .ok (.slice (some ⟨b, 0, none⟩) (n + new.length) cap) (w.setRow b (C.toList.take (n * ti.size) ++ news ++ C.toList.drop (n * ti.size + news.length)).toArray) := by
              simp [Builtin.append_, run_underlying ht, Go.sizeOf, Go.typeInfo, hti, Builtin.lenOf, hroom, hf, Addr.add_lit, hst]
            rw [hts] at hrun hfit
            have hxl : (C.toList.take (n * sz0)).length = n * sz0 := by rw [List.length_take, Array.length_toList]; omega
            obtain ⟨G', g1, g2, g3, g4, g5⟩ := i.grow (id := id) (n := n) (n' := n + new.length) (sz := sz0) (sz' := sz0) (bb := b) (cap' := cap) (all := C.toList.take (n * sz0) ++ news)
              (C' := (C.toList.take (n * sz0) ++ news ++ C.toList.drop (n * sz0 + news.length)).toArray) (e' := e0)
              (w' := w.setRow b (C.toList.take (n * sz0) ++ news ++ C.toList.drop (n * sz0 + news.length)).toArray) hid (by omega) (fun _ => rfl) (by simp) (by simp) (by simp) (by simp)
              (fun k hk _ hne => setRow_other w b k _ hne) (.inr (by rw [hc]; rfl)) (setRow_heap w b C _ e0 _ hC) hroom hmx
              (by simp; omega) hs0
              (by rw [List.length_append, hxl, src.len, Nat.add_mul]) (fun k u hu => by
                rw [List.getElem?_toArray, List.getElem?_append_left (List.getElem?_eq_some_iff.1 hu).1]; exact hu)
              (fun k v hv => by
                have hk : k < n * sz0 := Classical.byContradiction fun hk => by rw [hHn k (by omega)] at hv; cases hv
                have := i.ok _ _ _ hv
                rw [cell_of w _ _ hC] at this
                rw [List.getElem?_append_left (by omega), List.getElem?_take, if_pos hk, Array.getElem?_toList]; exact this)
            exact ⟨_, _, G', hrun, g1, g2, fin b cap _ G' hxl hroom g2.toMono g4 g5 hcells hrl⟩
          · subst hs
            have hxl : (C.toList.take (n * sz0)).length = n * sz0 := by
              rw [List.length_take, Array.length_toList, hCs]
              have : n * sz0 ≤ cap * sz0 := Nat.mul_le_mul_right _ hle
              omega
            have hxc : ∀ j u, (C.toList.take (n * sz0))[j]? = some u → w.cell? ((⟨b, 0, none⟩ : Addr).add j) = some u := by
              intro j u hu
              rw [List.getElem?_take] at hu
              split at hu
              · rw [add_plain, cell_of w _ _ hC, Nat.zero_add]; rwa [Array.getElem?_toList] at hu
              · cases hu
            have hrun := run_append_grow (P := P) w t ty e ti Z ht hti hzz ⟨b, 0, none⟩ n cap (C.toList.take (n * sz0)) (by rw [hts]; exact hxl) hxc ad new.length capY news hnl hnews (by omega) (by omega)
              (growslice_fits (by omega) (by rw [htb]; exact hbytes))
            have hcapg := grownCap_ge w (n + new.length) cap e
            have hcapm := grownCap_le_maxLen w (n + new.length) cap e (by simp only [maxLen]; omega)
            obtain ⟨G', g1, g2, g3, g4, g5⟩ := i.grow (id := id) (n := n) (n' := n + new.length) (sz := sz0) (sz' := sz0) (bb := w.heap.size) (cap' := grownCap w (n + new.length) cap e) (all := C.toList.take (n * sz0) ++ news)
              (w' := w.drew.alloc (.cells ((C.toList.take (n * sz0)).toArray ++ news.toArray ++ Builtin.zeroCells Z.cells (grownCap w (n + new.length) cap e - (n + new.length))) e)) hid (by omega)
              (fun _ => rfl) rfl rfl rfl (by simp)
              (fun k hk _ _ => heap_alloc_lt w.drew _ k hk) (.inl (Nat.le_refl _)) (heap_alloc_new w.drew _) (by omega) hcapm
              (by simp only [Array.size_append, List.size_toArray, size_zeroCells, hZs, src.len, hxl, ← Nat.add_mul]; congr 1; omega)
              (by omega) (by rw [List.length_append, hxl, src.len, Nat.add_mul]) (fun k u hu => by
                have hk := (List.getElem?_eq_some_iff.1 hu).1
                rw [Array.getElem?_append_left (by simpa using hk), List.append_toArray, List.getElem?_toArray]; exact hu)
              (fun k v hv => by have := i.H_lt hv; omega)
            exact ⟨_, _, G', hrun, g1, g2, fin w.heap.size _ _ G' hxl (by omega) g2.toMono g4 g5 hcells hrl⟩
    · cases hb
  · -- a nil slice without a token
    rename_i new hnew
    obtain ⟨a, news, src⟩ := arowsS_sound i hnew hy
    obtain ⟨capY, hYf⟩ := src.form
    have hX := hx.nil_inv
    split at hb
    · rename_i hm
      simp only [Option.some.injEq, Prod.mk.injEq] at hb
      obtain ⟨rfl, rfl⟩ := hb
      refine ⟨X, w, G, ?_, i, Ext.refl G h w, hx⟩
      rw [hYf, hm, hX]
      exact run_append_zero ht hti none a 0 0 capY (Nat.le_refl _)
    · rename_i hm
      split at hb
      case isFalse => cases hb
      rename_i hcond
      obtain ⟨hbytes, hsmall⟩ := hcond
      simp only [Option.some.injEq, Prod.mk.injEq] at hb
      obtain ⟨rfl, rfl⟩ := hb
      have hposn : 0 < news.length := by rw [src.len]; exact Nat.mul_pos (by omega) (by omega)
      obtain ⟨ad, had, _⟩ := src.at_ 0 _ (List.getElem?_eq_getElem hposn)
      subst had
      have hnews : ∀ j u, news[j]? = some u → w.cell? (ad.add j) = some u := fun j u hu => by
        obtain ⟨ad', e1, e2⟩ := src.at_ j u hu; cases e1; exact e2
      have hnl : news.length = new.length * ti.size := by rw [hts]; exact src.len
      obtain ⟨G1, i1, x1, hc1, hH1⟩ := i.pushTok
      rw [hX, hYf]
      have hrun := run_append_nil (P := P) w t ty e ti Z ht hti hzz ad new.length capY news hnl hnews (by omega) (by omega) (by rw [htb]; omega)
      have hcapg := grownCap_ge w new.length 0 e
      have hcapm := grownCap_le_maxLen w new.length 0 e (by simp only [maxLen]; omega)
      obtain ⟨G', g1, g2, g3, g4, g5⟩ := i1.grow (id := h.length) (n := 0) (n' := new.length) (sz := 0) (sz' := sz) (bb := w.heap.size) (cap' := grownCap w new.length 0 e) (all := news)
        (w' := w.drew.alloc (.cells (news.toArray ++ Builtin.zeroCells Z.cells (grownCap w new.length 0 e - new.length)) e)) (by simp) (by omega) (by omega) rfl rfl rfl (by simp)
        (fun k hk _ _ => heap_alloc_lt w.drew _ k hk) (.inl (Nat.le_refl _)) (heap_alloc_new w.drew _) (by omega) hcapm
        (by simp only [Array.size_append, List.size_toArray, size_zeroCells, hZs, src.len, ← Nat.add_mul]; congr 1; omega)
        (by omega) src.len (fun k u hu => by
          rw [Array.getElem?_append_left (by simpa using (List.getElem?_eq_some_iff.1 hu).1)]; simpa using hu)
        (fun k v hv => by have := i1.H_lt hv; omega)
      have hset : (h ++ [ABlk.front 0 0]).set h.length (.front new.length sz) = h ++ [.front new.length sz] := by simp
      rw [hset] at g1 g2
      refine ⟨_, _, G', hrun, g1, x1.trans g2, ?_⟩
      have m := (x1.trans g2).toMono
      refine .own _ h.length new.length sz _ ?_ (by simp) (Nat.le_refl _) src.rlen (fun _ => g5.symm)
      exact relP_block src.rlen hcapg (fun k u hu => g4 k u hu) (fun i' j row c h1 h2 => by
        obtain ⟨u, e1, e2, e3⟩ := src.rel i' j row c h1 h2; exact ⟨u, e1, e2.mono m.hmono, e3⟩)
  · cases hb

end
end Hk

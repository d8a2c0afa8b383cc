/-
  The texts Vk.Mem7, Vk.Mem8, Vk.Mem9, Vk.Mem10, Vk.MemT, Vk.MemS, Vk.Op, Vk.Nat1, Vk.Region, one behind another. No conditions.
-/
import Derived.Test.YtckbkcjhalimpabGreatDoorVk1
import Derived.MapKept
import Derived.Laws.MakeOwn
import Derived.Laws.BytesString
import Derived.Lib.Bytealg
import Derived.RangeFuncSeq
import Derived.Deep.AppendSrc
import Derived.Orders
set_option linter.unusedVariables false
set_option linter.unusedSimpArgs false
set_option linter.all false
namespace Hk
section
open Go Go.RowKit

section
variable {P : Program} {G : Gh} {h : Heap} {w : World} {x y v : AVal} {X Y V : Value}

/-- The rows that a token's holder has, as cells of its block. -/
theorem own_cells (i : Inv G h w) {rows : List (List AVal)} {id n sz : Nat} (hx : RelV G h (.slice rows (.own id)) X) {t : Nat} (hid : h[id]? = some (.front n sz t)) (hlen : rows.length = n) :
    X = G.cur id ∧ (∀ r ∈ rows, r.length = sz) ∧ ((n = 0 ∧ G.cur id = .slice none 0 0) ∨ ∃ b cap C e, G.cur id = .slice (some ⟨b, 0, none⟩) n cap ∧ w.heap[b]? = some (.cells C e (0, 0)) ∧
      n ≤ cap ∧ cap ≤ maxLen ∧ C.size = cap * sz ∧ 0 < sz ∧ (∀ k, n * sz ≤ k → G.H b k = none) ∧
      (∀ (i' j : Nat) (row : List AVal) (c : AVal), rows[i']? = some row → row[j]? = some c → ∃ u, (C.toList.take (n * sz))[i' * sz + j]? = some u ∧ RelP G.H c u ∧ c.cellOk = true) ∧ (t ≠ 0 → e + 1 = t)) := by
  cases hx with
  | p _ _ hp => cases hp
  | ownv _ _ hp hb =>
    obtain ⟨b, h1, _, h3⟩ := hb
    rw [hid] at h1; cases h1; exact absurd rfl (h3 _ _ _)
  | own _ _ n' sz' _ hp hf hn hr hc =>
    rw [hid] at hf
    simp only [Option.some.injEq, ABlk.front.injEq] at hf
    obtain ⟨rfl, rfl, rfl⟩ := hf
    have hX := hc hlen
    refine ⟨hX, hr, ?_⟩
    rcases i.blk id _ hid with h1 | ⟨b, cap, C, e, h1, h2, h3, h4, h5, h50, h6, h7⟩
    · exact .inl h1
    · refine .inr ⟨b, cap, C, e, h1, h2, h3, h4, h5, h50, h6, fun i' j row c hi hj => ?_, h7⟩
      rw [hX, h1] at hp
      generalize hV : Value.slice (some ⟨b, 0, none⟩) n cap = V0 at hp
      cases hp with
      | slice0 a cap => simp at hi
      | slice rows b' off cap' sz2 F hr2 hc2 hH hk hV2 =>
        simp only [Value.slice.injEq, Option.some.injEq, Addr.mk.injEq] at hV
        obtain ⟨⟨rfl, rfl, _⟩, hn', rfl⟩ := hV
        have hs : sz2 = sz := by rw [← hr2 row (List.mem_of_getElem? hi), hr row (List.mem_of_getElem? hi)]
        subst hs
        have hcell := i.ok _ _ _ (hH i' j row c hi hj)
        rw [cell_of w _ _ h2, Nat.zero_add] at hcell
        have hlt : i' * sz2 + j < n * sz2 := by
          have hi' : i' < rows.length := (List.getElem?_eq_some_iff.1 hi).1
          have hj' : j < sz2 := by rw [← hr2 row (List.mem_of_getElem? hi)]; exact (List.getElem?_eq_some_iff.1 hj).1
          calc i' * sz2 + j < i' * sz2 + sz2 := by omega
            _ = (i' + 1) * sz2 := by rw [Nat.add_mul]; omega
            _ ≤ n * sz2 := Nat.mul_le_mul_right _ (by omega)
        refine ⟨F (i' * sz2 + j), ?_, hV2 i' j row c hi hj, hk i' j row c hi hj⟩
        rw [List.getElem?_take, if_pos hlt, Array.getElem?_toList]
        exact hcell

theorem run_append_zero {t ty e : TypeId} {ti : TypeInfo} (ht : P.underlying t = some (.slice e)) (hi : P.info? e = some ti) (a b : Option Addr) (n cap c : Nat) (hn : n ≤ cap) :
    (Builtin.append_ #[t, t] ty #[.slice a n cap, .slice b 0 c]).run P w = .ok (.slice a n cap) w := by
  cases a <;> cases b <;> simp [Builtin.append_, run_underlying ht, Go.sizeOf, Go.typeInfo, hi, Builtin.lenOf, Builtin.firstCells, hn, loadCells, loadCellsFrom, storeCells, Sem.run_pure]

/-- A token for a nil slice. -/
theorem Inv.pushTok (i : Inv G h w) : ∃ G', Inv G' (h ++ [.front 0 0]) w ∧ Ext G h w G' (h ++ [.front 0 0]) w ∧ G'.cur h.length = .slice none 0 0 ∧ G'.H = G.H := by
  let G' : Gh := { G with cur := fun j => if j = h.length then .slice none 0 0 else G.cur j }
  have key := i.push (G' := G') (ext := [.front 0 0]) (w' := w) rfl rfl rfl (Nat.le_refl _) (fun _ _ => rfl) (fun _ _ => rfl) (fun id hid => if_neg (by omega)) (fun _ _ _ h => h) (fun _ _ _ => rfl)
    (fun b k v hb hv => by have := i.H_lt (b := b) (k := k) (v := v) hv; omega)
    (fun j bl hj m => by
      cases j with
      | zero => simp at hj; subst hj; exact .inl ⟨rfl, if_pos rfl⟩
      | succ j => simp at hj)
    (fun j bl b hj ho => by
      cases j with
      | zero =>
        simp at hj; subst hj
        have ho : Value.ownBlock (if h.length + 0 = h.length then .slice none 0 0 else G.cur (h.length + 0)) = some b := ho
        rw [if_pos (Nat.add_zero _)] at ho; cases ho
      | succ j => simp at hj)
    (fun j j' bl bl' b hj hj' _ _ => by
      have h1 : j < 1 := by simpa using (List.getElem?_eq_some_iff.1 hj).1
      have h2 : j' < 1 := by simpa using (List.getElem?_eq_some_iff.1 hj').1
      omega)
  exact ⟨G', key.1, key.2, if_pos rfl, rfl⟩

theorem pushTok_rel {G' : Gh} (hc : G'.cur h.length = .slice none 0 0) : RelV G' (h ++ [.front 0 0]) (.slice [] (.own h.length)) (.slice none 0 0) :=
  .own (t := 0) [] h.length 0 0 _ (.slice0 none 0) (by simp) (Nat.le_refl _) (by simp) (fun _ => hc.symm)

theorem aappend_sound {t ty e : TypeId} {sz bytes : Nat} {z r : AVal} {h' : Heap} (i : Inv G h w) (ht : P.underlying t = some (.slice e)) (hn : sizeT P e = some sz) (hby : bytesT P e = some bytes)
    (hz : zeroT P e = some z) (hzj : z.isJunk = false) (hzl : z.cells.length = sz) (hsz : sz ≠ 0) (hb : aappend sz bytes h x y = some (r, h')) (hx : RelV G h x X) (hy : RelV G h y Y) :
    ∃ V w' G', (Builtin.append_ #[t, t] ty #[X, Y]).run P w = .ok V w' ∧ Inv G' h' w' ∧ Ext G h w G' h' w' ∧ RelV G' h' r V := by
  obtain ⟨ti, hti, hts, htb, Z, hzz, hZs⟩ : ∃ ti, P.info? e = some ti ∧ ti.size = sz ∧ ti.bytes = bytes ∧ ∃ Z, ti.zero = some Z ∧ Z.cells.size = sz := by
    unfold sizeT at hn; unfold bytesT at hby; unfold zeroT at hz
    cases hi : P.info? e with
    | none => simp [hi] at hn
    | some ti =>
      simp [hi] at hn hby hz
      obtain ⟨Z, hZ1, hZ2⟩ := hz
      refine ⟨ti, rfl, hn, hby, Z, hZ1, ?_⟩
      subst hZ2
      rw [← hzl]; exact (cells_rel hzj (relV_ofConst G h Z)).1.symm
  unfold aappend at hb
  split at hb
  · -- the holder of a token
    rename_i rows id new hnew
    obtain ⟨a, news, src⟩ := arowsS_sound i hnew hy
    obtain ⟨capY, hYf⟩ := src.form
    split at hb
    · rename_i n sz0 hid
      split at hb
      case isFalse => cases hb
      rename_i hcond
      obtain ⟨hlen, hszz, hbytes, hsmall⟩ := hcond
      obtain ⟨hX, hrl, hcur⟩ := own_cells i hx hid hlen
      split at hb
      · rename_i hm
        simp only [Option.some.injEq, Prod.mk.injEq] at hb
        obtain ⟨rfl, rfl⟩ := hb
        refine ⟨X, w, G, ?_, i, Ext.refl G h w, hx⟩
        rw [hYf, hm]
        rcases hcur with ⟨_, hc⟩ | ⟨b, cap, C, e0, hc, _, hle, _⟩
        · rw [hX, hc]; exact run_append_zero ht hti none a 0 0 capY (Nat.le_refl _)
        · rw [hX, hc]; exact run_append_zero ht hti _ a n cap capY hle
      · rename_i hm
        simp only [Option.some.injEq, Prod.mk.injEq] at hb
        obtain ⟨rfl, rfl⟩ := hb
        -- where the new elements lie
        have hposn : 0 < news.length := by rw [src.len]; exact Nat.mul_pos (by omega) (by omega)
        obtain ⟨ad, had, _⟩ := src.at_ 0 _ (List.getElem?_eq_getElem hposn)
        subst had
        have hnews : ∀ j u, news[j]? = some u → w.cell? (ad.add j) = some u := fun j u hu => by
          obtain ⟨ad', e1, e2⟩ := src.at_ j u hu; cases e1; exact e2
        have hone := src.one
        have hnl : news.length = new.length * ti.size := by rw [hts]; exact src.len
        -- what the result's relation wants
        have fin : ∀ (bb cap' : Nat) (xs : List Value) (G' : Gh), xs.length = n * sz → cap' ≥ n + new.length → Mono G h G' (h.set id (.front (n + new.length) sz)) →
            (∀ (k : Nat) u, (xs ++ news)[k]? = some u → G'.H bb k = some u) → G'.cur id = .slice (some ⟨bb, 0, none⟩) (n + new.length) cap' →
            (∀ (i' j : Nat) (row : List AVal) (c : AVal), rows[i']? = some row → row[j]? = some c → ∃ u, xs[i' * sz + j]? = some u ∧ RelP G.H c u ∧ c.cellOk = true) →
            (∀ r ∈ rows, r.length = sz) →
            RelV G' (h.set id (.front (n + new.length) sz)) (.slice (rows ++ new) (.own id)) (.slice (some ⟨bb, 0, none⟩) (n + new.length) cap') := by
          intro bb cap' xs G' hxl hc hm' hH hcur' hcells hrl'
          have hidl : id < h.length := (List.getElem?_eq_some_iff.1 hid).1
          have hrl2 : ∀ r ∈ rows ++ new, r.length = sz := fun r hr => (List.mem_append.1 hr).elim (hrl' r) (src.rlen r)
          have hlen2 : (rows ++ new).length = n + new.length := by rw [List.length_append, hlen]
          refine .own (t := 0) _ id (n + new.length) sz _ ?_ (by simp [hidl]) (by omega) hrl2 (fun _ => hcur'.symm)
          have := relP_block (H := G'.H) (rows := rows ++ new) (sz := sz) (b := bb) (cap := cap') (all := xs ++ news) hrl2 (by omega) hH
            (rel_append (by rw [hlen]; exact hxl) hrl' (fun i' j row c h1 h2 => by obtain ⟨u, e1, e2, e3⟩ := hcells i' j row c h1 h2; exact ⟨u, e1, e2.mono hm'.hmono, e3⟩)
              (fun i' j row c h1 h2 => by obtain ⟨u, e1, e2, e3⟩ := src.rel i' j row c h1 h2; exact ⟨u, e1, e2.mono hm'.hmono, e3⟩))
          rwa [hlen2] at this
        rw [hX, hYf]
        rcases hcur with ⟨rfl, hc⟩ | ⟨b, cap, C, e0, hc, hC, hle, hmx, hCs, hs0, hHn, hcells, _⟩
        · -- nil so far
          rw [hc]
          have hrun := run_append_nil (P := P) w t ty e ti Z ht hti hzz ad new.length capY news hnl hnews (by omega) (by omega) (by rw [htb]; rw [Nat.zero_add] at hbytes; omega)
          have hcapg := grownCap_ge w new.length 0 e
          have hcapm := grownCap_le_maxLen w new.length 0 e (by simp only [maxLen]; omega)
          obtain ⟨G', g1, g2, g3, g4, g5⟩ := i.grow (id := id) (n := 0) (n' := 0 + new.length) (t' := 0) (sz := sz0) (sz' := sz) (bb := w.heap.size) (cap' := grownCap w new.length 0 e) (all := news)
            (w' := w.drew.alloc (.cells (news.toArray ++ Builtin.zeroCells Z.cells (grownCap w new.length 0 e - new.length)) e)) hid (by omega) (by omega) rfl rfl rfl (by simp)
            (fun k hk _ _ => heap_alloc_lt w.drew _ k hk) (.inl (Nat.le_refl _)) (heap_alloc_new w.drew _) (by omega) hcapm
            (by simp only [Array.size_append, List.size_toArray, size_zeroCells, hZs, src.len, ← Nat.add_mul]; congr 1; omega)
            (by omega) (by rw [src.len]; simp) (fun k u hu => by
              rw [Array.getElem?_append_left (by simpa using (List.getElem?_eq_some_iff.1 hu).1)]; simpa using hu)
            (fun k v hv => by have := i.H_lt hv; omega) (fun h => absurd rfl h)
          refine ⟨_, _, G', hrun, g1, g2, ?_⟩
          have := fin w.heap.size (grownCap w new.length 0 e) [] G' (by simp) (by omega) g2.toMono (by simpa using g4) g5 (fun i' j row c h1 _ => by
            have : rows = [] := List.eq_nil_of_length_eq_zero hlen
            subst this; simp at h1) (fun r hr => by
            have : rows = [] := List.eq_nil_of_length_eq_zero hlen
            subst this; cases hr)
          simpa using this
        · have hs : sz0 = sz := by omega
          rw [hc]
          by_cases hroom : n + new.length ≤ cap
          · subst hs
            have hfit : n * ti.size + news.length ≤ C.size := by rw [hts, src.len, hCs, ← Nat.add_mul]; exact Nat.mul_le_mul_right _ hroom
            have hf := run_firstCells_some (P := P) w ti.size new.length ad new.length capY news hnl hnews
            have hst := run_storeCells_at P b (n * ti.size) e0 news 0 C w hC (by simpa using hfit) hone
            simp only [Nat.add_zero] at hst
            have hrun : (Builtin.append_ #[t, t] ty #[.slice (some ⟨b, 0, none⟩) n cap, .slice (some ad) new.length capY]).run P w =
                .ok (.slice (some ⟨b, 0, none⟩) (n + new.length) cap) (w.setRow b (C.toList.take (n * ti.size) ++ news ++ C.toList.drop (n * ti.size + news.length)).toArray) := by
              simp [Builtin.append_, run_underlying ht, Go.sizeOf, Go.typeInfo, hti, Builtin.lenOf, hroom, hf, Addr.add_lit, hst]
            rw [hts] at hrun hfit
            have hxl : (C.toList.take (n * sz0)).length = n * sz0 := by rw [List.length_take, Array.length_toList]; omega
            obtain ⟨G', g1, g2, g3, g4, g5⟩ := i.grow (id := id) (n := n) (n' := n + new.length) (t' := 0) (sz := sz0) (sz' := sz0) (bb := b) (cap' := cap) (all := C.toList.take (n * sz0) ++ news)
              (C' := (C.toList.take (n * sz0) ++ news ++ C.toList.drop (n * sz0 + news.length)).toArray) (e' := e0)
              (w' := w.setRow b (C.toList.take (n * sz0) ++ news ++ C.toList.drop (n * sz0 + news.length)).toArray) hid (by omega) (fun _ => rfl) (by simp) (by simp) (by simp) (by simp)
              (fun k hk _ hne => setRow_other w b k _ hne) (.inr (by rw [hc]; rfl)) (setRow_heap w b C _ e0 _ hC) hroom hmx
              (by simp; omega) hs0
              (by rw [List.length_append, hxl, src.len, Nat.add_mul]) (fun k u hu => by
                rw [List.getElem?_toArray, List.getElem?_append_left (List.getElem?_eq_some_iff.1 hu).1]; exact hu)
              (fun k v hv => by
                have hk : k < n * sz0 := Classical.byContradiction fun hk => by rw [hHn k (by omega)] at hv; cases hv
                have := i.ok _ _ _ hv
                rw [cell_of w _ _ hC] at this
                rw [List.getElem?_append_left (by omega), List.getElem?_take, if_pos hk, Array.getElem?_toList]; exact this) (fun h => absurd rfl h)
            exact ⟨_, _, G', hrun, g1, g2, fin b cap _ G' hxl hroom g2.toMono g4 g5 hcells hrl⟩
          · subst hs
            have hxl : (C.toList.take (n * sz0)).length = n * sz0 := by
              rw [List.length_take, Array.length_toList, hCs]
              have : n * sz0 ≤ cap * sz0 := Nat.mul_le_mul_right _ hle
              omega
            have hxc : ∀ j u, (C.toList.take (n * sz0))[j]? = some u → w.cell? ((⟨b, 0, none⟩ : Addr).add j) = some u := by
              intro j u hu
              rw [List.getElem?_take] at hu
              split at hu
              · rw [add_plain, cell_of w _ _ hC, Nat.zero_add]; rwa [Array.getElem?_toList] at hu
              · cases hu
            have hrun := run_append_grow (P := P) w t ty e ti Z ht hti hzz ⟨b, 0, none⟩ n cap (C.toList.take (n * sz0)) (by rw [hts]; exact hxl) hxc ad new.length capY news hnl hnews (by omega) (by omega)
              (growslice_fits (by omega) (by rw [htb]; exact hbytes))
            have hcapg := grownCap_ge w (n + new.length) cap e
            have hcapm := grownCap_le_maxLen w (n + new.length) cap e (by simp only [maxLen]; omega)
            obtain ⟨G', g1, g2, g3, g4, g5⟩ := i.grow (id := id) (n := n) (n' := n + new.length) (t' := 0) (sz := sz0) (sz' := sz0) (bb := w.heap.size) (cap' := grownCap w (n + new.length) cap e) (all := C.toList.take (n * sz0) ++ news)
              (w' := w.drew.alloc (.cells ((C.toList.take (n * sz0)).toArray ++ news.toArray ++ Builtin.zeroCells Z.cells (grownCap w (n + new.length) cap e - (n + new.length))) e)) hid (by omega)
              (fun _ => rfl) rfl rfl rfl (by simp)
              (fun k hk _ _ => heap_alloc_lt w.drew _ k hk) (.inl (Nat.le_refl _)) (heap_alloc_new w.drew _) (by omega) hcapm
              (by simp only [Array.size_append, List.size_toArray, size_zeroCells, hZs, src.len, hxl, ← Nat.add_mul]; congr 1; omega)
              (by omega) (by rw [List.length_append, hxl, src.len, Nat.add_mul]) (fun k u hu => by
                have hk := (List.getElem?_eq_some_iff.1 hu).1
                rw [Array.getElem?_append_left (by simpa using hk), List.append_toArray, List.getElem?_toArray]; exact hu)
              (fun k v hv => by have := i.H_lt hv; omega) (fun h => absurd rfl h)
            exact ⟨_, _, G', hrun, g1, g2, fin w.heap.size _ _ G' hxl (by omega) g2.toMono g4 g5 hcells hrl⟩
    · cases hb
  · -- a nil slice without a token
    rename_i new hnew
    obtain ⟨a, news, src⟩ := arowsS_sound i hnew hy
    obtain ⟨capY, hYf⟩ := src.form
    have hX := hx.nil_inv
    split at hb
    · rename_i hm
      simp only [Option.some.injEq, Prod.mk.injEq] at hb
      obtain ⟨rfl, rfl⟩ := hb
      refine ⟨X, w, G, ?_, i, Ext.refl G h w, hx⟩
      rw [hYf, hm, hX]
      exact run_append_zero ht hti none a 0 0 capY (Nat.le_refl _)
    · rename_i hm
      split at hb
      case isFalse => cases hb
      rename_i hcond
      obtain ⟨hbytes, hsmall⟩ := hcond
      simp only [Option.some.injEq, Prod.mk.injEq] at hb
      obtain ⟨rfl, rfl⟩ := hb
      have hposn : 0 < news.length := by rw [src.len]; exact Nat.mul_pos (by omega) (by omega)
      obtain ⟨ad, had, _⟩ := src.at_ 0 _ (List.getElem?_eq_getElem hposn)
      subst had
      have hnews : ∀ j u, news[j]? = some u → w.cell? (ad.add j) = some u := fun j u hu => by
        obtain ⟨ad', e1, e2⟩ := src.at_ j u hu; cases e1; exact e2
      have hnl : news.length = new.length * ti.size := by rw [hts]; exact src.len
      obtain ⟨G1, i1, x1, hc1, hH1⟩ := i.pushTok
      rw [hX, hYf]
      have hrun := run_append_nil (P := P) w t ty e ti Z ht hti hzz ad new.length capY news hnl hnews (by omega) (by omega) (by rw [htb]; omega)
      have hcapg := grownCap_ge w new.length 0 e
      have hcapm := grownCap_le_maxLen w new.length 0 e (by simp only [maxLen]; omega)
      obtain ⟨G', g1, g2, g3, g4, g5⟩ := i1.grow (id := h.length) (n := 0) (n' := new.length) (t := 0) (t' := 0) (sz := 0) (sz' := sz) (bb := w.heap.size) (cap' := grownCap w new.length 0 e) (all := news)
        (w' := w.drew.alloc (.cells (news.toArray ++ Builtin.zeroCells Z.cells (grownCap w new.length 0 e - new.length)) e)) (by simp) (by omega) (by omega) rfl rfl rfl (by simp)
        (fun k hk _ _ => heap_alloc_lt w.drew _ k hk) (.inl (Nat.le_refl _)) (heap_alloc_new w.drew _) (by omega) hcapm
        (by simp only [Array.size_append, List.size_toArray, size_zeroCells, hZs, src.len, ← Nat.add_mul]; congr 1; omega)
        (by omega) src.len (fun k u hu => by
          rw [Array.getElem?_append_left (by simpa using (List.getElem?_eq_some_iff.1 hu).1)]; simpa using hu)
        (fun k v hv => by have := i1.H_lt hv; omega) (fun h => absurd rfl h)
      have hset : (h ++ [ABlk.front 0 0]).set h.length (.front new.length sz) = h ++ [.front new.length sz] := by simp
      rw [hset] at g1 g2
      refine ⟨_, _, G', hrun, g1, x1.trans g2, ?_⟩
      have m := (x1.trans g2).toMono
      refine .own (t := 0) _ h.length new.length sz _ ?_ (by simp) (Nat.le_refl _) src.rlen (fun _ => g5.symm)
      exact relP_block src.rlen hcapg (fun k u hu => g4 k u hu) (fun i' j row c h1 h2 => by
        obtain ⟨u, e1, e2, e3⟩ := src.rel i' j row c h1 h2; exact ⟨u, e1, e2.mono m.hmono, e3⟩)
  · cases hb

end
end
section
open Go Go.RowKit

section
variable {P : Program} {G : Gh} {h : Heap} {w : World} {x y v : AVal} {X Y V : Value}

theorem tokCells_none : ∀ (vs : List AVal) (k : Nat), (tokCells k vs).2.length = 0 → (tokCells k vs).1 = vs
  | [], k, _ => rfl
  | v :: r, k, h0 => by
    by_cases hv : v = .slice [] .nil
    · subst hv; simp [tokCells] at h0
    · have he : tokCells k (v :: r) = (v :: (tokCells k r).1, (tokCells k r).2) := by
        rw [tokCells]
        exact hv
      rw [he] at h0 ⊢
      simp only [] at h0 ⊢
      rw [tokCells_none r k h0]

theorem Inv.newAt (i : Inv G h w) {id n : Nat} {v p : AVal} {h' : Heap} {Z : Value} (t : TypeId) (hb : anewAt id n h v = some (p, h')) (hr : RelV G h v Z) :
    ∃ G', Inv G' h' (w.alloc (.cells Z.cells t)) ∧ Ext G h w G' h' (w.alloc (.cells Z.cells t)) ∧ RelV G' h' p (.pointer (some ⟨w.heap.size, 0, none⟩)) ∧ Z.cells.size = n := by
  unfold anewAt at hb
  simp only [] at hb
  split at hb
  · rename_i hid
    split at hb
    case isFalse => cases hb
    rename_i hcond
    obtain ⟨hlen, hall⟩ := hcond
    simp only [Option.some.injEq, Prod.mk.injEq] at hb
    obtain ⟨rfl, rfl⟩ := hb
    obtain ⟨c1, c2⟩ := agg_cells hr hall
    have hidl : id < h.length := (List.getElem?_eq_some_iff.1 hid).1
    let G' : Gh := { G with blk := fun j => if j = id then w.heap.size else G.blk j }
    have key := i.step (G' := G') (w' := w.alloc (.cells Z.cells t)) id .free (.cells v.cells) hid rfl rfl rfl (by simp) (fun k hk _ => heap_alloc_lt w _ k hk) (fun j hj => if_neg hj) (fun _ _ => rfl)
      (fun _ _ _ hh => hh) (fun _ _ _ _ => rfl) (fun b k v hb hv => by
        rcases hb with hb | hb
        · have := i.H_lt (b := b) (k := k) (v := v) hv; omega
        · cases hb) trivial
      (fun m => ⟨Z.cells, t, by show (w.alloc _).heap[if id = id then w.heap.size else _]? = _; rw [if_pos rfl]; exact heap_alloc_new w _, by omega,
        fun k => by show G.H (if id = id then w.heap.size else _) k = none; rw [if_pos rfl]; exact i.H_none (Nat.le_refl _), fun j u hu => ⟨(c2 j u hu).1, (c2 j u hu).2.mono m⟩⟩)
      (fun b hb => by
        have hb : some (if id = id then w.heap.size else G.blk id) = some b := hb
        rw [if_pos rfl] at hb; cases hb; exact .inl (Nat.le_refl _))
    refine ⟨G', key.1, key.2, ?_, by omega⟩
    have hp := RelV.ptr (G := G') (h := h.set id (.cells v.cells)) id 0 ⟨.cells v.cells, by simp [hidl], by simp⟩
    have he : G'.blk id = w.heap.size := if_pos rfl
    rwa [he] at hp
  · cases hb

/-- A row at a reserved token. -/
theorem Inv.newRowAt (i : Inv G h w) {id len sz : Nat} {cs row : List AVal} {C : Array Value} (e : TypeId) (hid : h[id]? = some .free) (hc : RelC G h cs C) (hp : pureRow cs = some row) (hl : C.size = len * sz) (hmax : len ≤ maxLen) (hsz0 : 0 < sz) :
    ∃ G', Inv G' (h.set id (.front len sz)) (w.alloc (.cells C e)) ∧ Ext G h w G' (h.set id (.front len sz)) (w.alloc (.cells C e)) ∧
      RelV G' (h.set id (.front len sz)) (.slice (rowsOf len sz row) (.own id)) (.slice (some ⟨w.heap.size, 0, none⟩) len len) := by
  obtain ⟨p1, p2⟩ := pureRow_spec hp
  obtain ⟨c1, c2⟩ := hc
  have hidl : id < h.length := (List.getElem?_eq_some_iff.1 hid).1
  have hHlt : ∀ {b k v}, G.H b k = some v → b ≠ w.heap.size := fun hv => by have := i.H_lt hv; omega
  have hmono : ∀ b k v, G.H b k = some v → (G.addRow id w.heap.size C (.slice (some ⟨w.heap.size, 0, none⟩) len len)).H b k = some v := by
    intro b k v hv; simp only [Gh.addRow, if_neg (hHlt hv), hv]
  have key := i.step (G' := G.addRow id w.heap.size C (.slice (some ⟨w.heap.size, 0, none⟩) len len)) (w' := w.alloc (.cells C e)) id .free (.front len sz) hid
    rfl rfl rfl (by simp) (fun k hk _ => heap_alloc_lt w _ k hk) (fun j hj => rfl) (fun j hj => by simp only [Gh.addRow]; rw [if_neg hj]) hmono
    (fun b k hb _ => by simp only [Gh.addRow]; rw [if_neg (by omega)])
    (fun b k v _ hv => by
      by_cases hbe : b = w.heap.size
      · subst hbe
        simp only [Gh.addRow, if_true] at hv
        rw [cell_of _ _ _ (heap_alloc_new w _), hv]
      · simp only [Gh.addRow, if_neg hbe] at hv
        have hlt := i.H_lt hv
        rw [World.cell?_of_block (w := w) (a := ⟨b, k, none⟩) (heap_alloc_lt w _ b hlt)]
        exact i.ok b k v hv) trivial
    (fun m => .inr ⟨w.heap.size, len, C, e, by simp [Gh.addRow], heap_alloc_new w _, Nat.le_refl _, hmax, hl, hsz0, fun k hk => by
        simp only [Gh.addRow, if_true]
        exact Array.getElem?_eq_none (by omega), fun h => absurd rfl h⟩)
    (fun b ho => by simp only [ownerB, Gh.addRow, if_true, Value.ownBlock, Option.some.injEq] at ho; exact .inl (by omega))
  refine ⟨_, key.1, key.2, ?_⟩
  have hlen : (rowsOf len sz row).length = len := (rowsOf_spec len sz row (by omega)).1
  refine .own (t := 0) _ id len sz _ ?_ (by simp [hidl]) (by omega) (rowsOf_spec len sz row (by omega)).2.1 (fun _ => by simp [Gh.addRow])
  refine relP_rows (F := fun j => C.getD j undef) (by omega) (Nat.le_refl _) fun j c hj hlt => ?_
  have hjl : j < C.size := by omega
  obtain ⟨c0, hc0⟩ : ∃ c0, cs[j]? = some c0 := ⟨cs[j]'(by omega), List.getElem?_eq_getElem (by omega)⟩
  obtain ⟨c', e1, e2⟩ := p2 j c0 hc0
  rw [hj] at e1; cases e1
  obtain ⟨q1, q2⟩ := pure1_rel e2 (c2 j c0 hc0)
  refine ⟨?_, q1.mono hmono, q2⟩
  simp [Gh.addRow, Array.getD_eq_getD_getElem?, hjl]

theorem abuildSliceAt_sound {t e : TypeId} {id len sz : Nat} {z r : AVal} {h' : Heap} {parts : Array (Nat × Operand)} {f : Operand → AVal} {F : Operand → Value}
    (i : Inv G h w) (ht : P.underlying t = some (.slice e)) (hz : zeroT P e = some z) (hn : sizeT P e = some sz) (hsz : sz ≠ 0) (hle : len * sz ≤ 16777216) (hf : ∀ o, RelV G h (f o) (F o)) (hzj : z.isJunk = false)
    (hb : abuildSliceAt id len sz z.cells (parts.toList.map fun p => (p.1, f p.2)) h = some (r, h')) :
    ∃ V w' G', (Instr.buildSlice t len (parts.map fun (i, x) => (i, F x))).run P w = .ok V w' ∧ Inv G' h' w' ∧ Ext G h w G' h' w' ∧ RelV G' h' r V := by
  unfold abuildSliceAt at hb
  split at hb
  · rename_i rows hid hrows
    simp only [Option.some.injEq, Prod.mk.injEq] at hb
    obtain ⟨rfl, rfl⟩ := hb
    obtain ⟨cs, row, C, h1, rfl, h3, h4, h5, h6⟩ := buildRow_sound (G := G) (h := h) (w := w) ht hz hn hsz hle hf hzj hrows
    obtain ⟨G', g1, g2, g3⟩ := i.newRowAt e hid h3 h1 h4 h5 (by omega)
    exact ⟨_, _, G', h6, g1, g2, g3⟩
  · cases hb

theorem aboxAt_sound {t : TypeId} {id n : Nat} {p : AVal} {h' : Heap} (i : Inv G h w) (hb : anewAt id n h x = some (p, h')) (hx : RelV G h x X) :
    ∃ V w' G', (Instr.box t X).run P w = .ok V w' ∧ Inv G' h' w' ∧ Ext G h w G' h' w' ∧ RelV G' h' p V := by
  obtain ⟨G', h1, h2, h3, _⟩ := i.newAt t hb hx
  exact ⟨_, _, G', by simp [Instr.box, newVar, newRow, Sem.run_pure], h1, h2, h3⟩

theorem aallocAt_sound {t : TypeId} {id n : Nat} {z p : AVal} {h' : Heap} (i : Inv G h w) (hz : zeroT P t = some z) (hb : anewAt id n h z = some (p, h')) :
    ∃ V w' G', (Instr.alloc t true (.tuple #[])).run P w = .ok V w' ∧ Inv G' h' w' ∧ Ext G h w G' h' w' ∧ RelV G' h' p V := by
  obtain ⟨Z, hz1, hz2⟩ := run_zeroValue' (P := P) (G := G) (h := h) (w := w) hz
  obtain ⟨G', h1, h2, h3, _⟩ := i.newAt t hb hz2
  refine ⟨_, _, G', ?_, h1, h2, h3⟩
  simp [Instr.alloc, hz1, newVar, newRow, Sem.run_pure]

end
end
section
open Go Go.RowKit

section
variable {P : Program} {G : Gh} {h : Heap} {w : World} {x y v : AVal} {X Y V : Value}

/-- A new block of cells, as they are. -/
theorem Inv.newCells (i : Inv G h w) {cs : List AVal} {C : Array Value} (e : TypeId) (hc : RelC G h cs C) (hk : ∀ u ∈ cs, u.cellOk = true) :
    ∃ G', Inv G' (h ++ [.cells cs]) (w.alloc (.cells C e)) ∧ Ext G h w G' (h ++ [.cells cs]) (w.alloc (.cells C e)) ∧ G'.blk h.length = w.heap.size := by
  obtain ⟨c1, c2⟩ := hc
  refine ⟨{ G with blk := fun j => if j = h.length then w.heap.size else G.blk j }, ?_⟩
  have key := i.push (G' := { G with blk := fun j => if j = h.length then w.heap.size else G.blk j }) (ext := [.cells cs]) (w' := w.alloc (.cells C e))
    rfl rfl rfl (by simp) (fun k hk => heap_alloc_lt w _ k hk) (fun id hid => by show (if id = h.length then _ else _) = _; rw [if_neg (by omega)]) (fun id hid => rfl) (fun _ _ _ hh => hh) (fun _ _ _ => rfl)
    (fun b k v hb hv => by have := i.H_lt (b := b) (k := k) (v := v) hv; omega)
    (fun j bl hj m => by
      cases j with
      | zero =>
        simp at hj; subst hj
        refine ⟨C, e, by simp only [Nat.add_zero, if_true]; exact heap_alloc_new w _, by omega, fun k => by simp only [Nat.add_zero, if_true]; exact i.H_none (Nat.le_refl _), fun j u hu => ?_⟩
        exact ⟨hk u (List.mem_of_getElem? hu), (c2 j u hu).mono m⟩
      | succ j => simp at hj)
    (fun j bl b hj ho => by
      cases j with
      | zero => simp at hj; subst hj; simp only [ownerB, Nat.add_zero, if_true, Option.some.injEq] at ho; omega
      | succ j => simp at hj)
    (fun j j' bl bl' b hj hj' _ _ => by
      have h1 : j < 1 := by simpa using (List.getElem?_eq_some_iff.1 hj).1
      have h2 : j' < 1 := by simpa using (List.getElem?_eq_some_iff.1 hj').1
      omega)
  exact ⟨key.1, key.2, by simp⟩

theorem amakeSlice_sound {t e : TypeId} {sz by_ : Nat} {z r : AVal} {h' : Heap} (i : Inv G h w) (ht : P.underlying t = some (.slice e)) (hn : sizeT P e = some sz) (hby : bytesT P e = some by_) (hz : zeroT P e = some z)
    (hj : z.isJunk = false) (hl : z.cells.length = sz) (hk : z.cells.all AVal.cellOk = true) (hb : amakeSlice sz by_ z.cells x h = some (r, h')) {k k' : IntKind} {n : Int} (hxn : x = .int k n) (hX : X = .int k n) (hY : Y = .int k' n) :
    ∃ V w' G', (Instr.makeSlice t X Y).run P w = .ok V w' ∧ Inv G' h' w' ∧ Ext G h w G' h' w' ∧ RelV G' h' r V := by
  subst hxn; subst hX; subst hY
  simp only [amakeSlice] at hb
  split at hb
  case isFalse => cases hb
  rename_i hcond
  obtain ⟨hn0, hbytes, hmax⟩ := hcond
  simp only [Option.some.injEq, Prod.mk.injEq] at hb
  obtain ⟨rfl, rfl⟩ := hb
  obtain ⟨m, rfl⟩ := Int.eq_ofNat_of_zero_le hn0
  simp only [Int.toNat_natCast] at *
  unfold sizeT at hn; unfold bytesT at hby; unfold zeroT at hz
  cases hi : P.info? e with
  | none => simp [hi] at hn
  | some ti =>
    simp only [hi, Option.map_some, Option.some.injEq, Option.bind_some, Option.map_eq_some_iff] at hn hby hz
    obtain ⟨Z, hZ, hz⟩ := hz
    have hrun := run_make (P := P) w t e ti Z ht hi hZ k k' m m hn0 (Int.le_refl _) (by
      rw [hby]
      have : ((m * by_ : Nat) : Int) ≤ 140737488355328 := by omega
      rw [Int.natCast_mul] at this
      rw [Int.mul_comm]; omega) (by omega)
    have hrz : RelV G h z Z := by rw [← hz]; exact relV_ofConst G h Z
    have hcz := cells_rel hj hrz
    have hrc := relC_replicate (G := G) (h := h) hcz m
    have hmade : madeCells Z.cells ((m : Int).toNat * ti.size) = (Array.range (m * Z.cells.size)).map fun j => Z.cells[j % Z.cells.size]! := by
      rw [hn, ← hl, hcz.1]; simp [madeCells]
    rw [hmade] at hrun
    obtain ⟨G', h1, h2, h3⟩ := i.newCells e hrc (fun u hu => by
      obtain ⟨l, hl1, hl2⟩ := List.mem_flatten.1 hu
      rw [(List.mem_replicate.1 hl1).2] at hl2
      exact List.all_eq_true.1 hk u hl2)
    refine ⟨_, _, G', hrun, h1, h2, ?_⟩
    have := RelV.mslice (G := G') (h := h ++ [.cells (List.replicate m z.cells).flatten]) h.length 0 m sz m ⟨.cells (List.replicate m z.cells).flatten, by simp, by simp⟩ (Nat.le_refl _)
    rw [h3] at this
    simpa using this

/-! ### Maps -/

theorem Inv.newMap (i : Inv G h w) : ∃ G', Inv G' (h ++ [.map []]) (w.alloc (.map #[] 0)) ∧ Ext G h w G' (h ++ [.map []]) (w.alloc (.map #[] 0)) ∧ RelV G' (h ++ [.map []]) (.map h.length) (.map (some w.heap.size)) := by
  refine ⟨{ G with blk := fun j => if j = h.length then w.heap.size else G.blk j }, ?_⟩
  have key := i.push (G' := { G with blk := fun j => if j = h.length then w.heap.size else G.blk j }) (ext := [.map []]) (w' := w.alloc (.map #[] 0))
    rfl rfl rfl (by simp) (fun k hk => heap_alloc_lt w _ k hk) (fun id hid => by show (if id = h.length then _ else _) = _; rw [if_neg (by omega)]) (fun id hid => rfl) (fun _ _ _ hh => hh) (fun _ _ _ => rfl)
    (fun b k v hb hv => by have := i.H_lt (b := b) (k := k) (v := v) hv; omega)
    (fun j bl hj m => by
      cases j with
      | zero =>
        simp at hj; subst hj
        refine ⟨#[], 0, by simp only [Nat.add_zero, if_true]; exact (MapKept.heap_alloc w _).1, rfl, fun k => by simp only [Nat.add_zero, if_true]; exact i.H_none (Nat.le_refl _), by simp, MapKept.stamped_empty 0⟩
      | succ j => simp at hj)
    (fun j bl b hj ho => by
      cases j with
      | zero => simp at hj; subst hj; simp only [ownerB, Nat.add_zero, if_true, Option.some.injEq] at ho; omega
      | succ j => simp at hj)
    (fun j j' bl bl' b hj hj' _ _ => by
      have h1 : j < 1 := by simpa using (List.getElem?_eq_some_iff.1 hj).1
      have h2 : j' < 1 := by simpa using (List.getElem?_eq_some_iff.1 hj').1
      omega)
  refine ⟨key.1, key.2, ?_⟩
  have := RelV.map (G := { G with blk := fun j => if j = h.length then w.heap.size else G.blk j }) (h := h ++ [.map []]) h.length ⟨.map [], by simp, by simp⟩
  simpa using this

/-- The entries of a map. -/
def RelE (G : Gh) (h : Heap) (es : List (AVal × AVal)) (E : List MapEntry) : Prop :=
  E.length = es.length ∧ ∀ (i : Nat) (kv : AVal × AVal), es[i]? = some kv → ∃ m, E[i]? = some m ∧ akeyOk kv.1 = true ∧ RelP G.H kv.1 m.key ∧ RelV G h kv.2 m.val

theorem isKey_of {H : Nat → Nat → Option Value} {d : TypeDesc} {k : AVal} {K : Value} (hf : akeyFor d k = true) (hr : RelP H k K) : MapKept.IsKey d K := by
  cases d <;> cases k <;> simp [akeyFor] at hf <;> cases hr <;> simp [MapKept.IsKey, hf]

theorem aeq1_spec {H : Nat → Nat → Option Value} {d : TypeDesc} {k k' : AVal} {K K' : Value} {b : Bool} (hf : akeyFor d k = true) (hr : RelP H k K) (hr' : RelP H k' K') (he : aeq1 k k' = some b) :
    Instr.sameNow d K K' = some b ∧ (b = true → K' = K ∧ k' = k) ∧ (b = false → K' ≠ K) := by
  unfold aeq1 at he
  split at he
  · rename_i i1 a i2 c
    split at he
    · rename_i hii
      subst hii
      cases he
      cases hr; cases hr'
      cases d <;> simp [akeyFor] at hf
      exact ⟨by simp [Instr.sameNow], fun hb => by simp at hb; subst hb; exact ⟨rfl, rfl⟩, fun hb => by simp at hb; simpa using fun e => hb e.symm⟩
    · cases he
  · rename_i a c
    cases he
    cases hr; cases hr'
    cases d <;> simp [akeyFor] at hf
    exact ⟨by simp [Instr.sameNow], fun hb => by simp at hb; subst hb; exact ⟨rfl, rfl⟩, fun hb => by simp at hb; simpa using fun e => hb e.symm⟩
  · rename_i a c
    cases he
    cases hr; cases hr'
    cases d <;> simp [akeyFor] at hf
    have : ((⟨a.toArray⟩ : ByteArray) == ⟨c.toArray⟩) = (a == c) := by
      cases h : (a == c) with
      | true => simp at h; subst h; exact (MapKept.bytes_beq _ _).2 rfl
      | false =>
        cases h2 : ((⟨a.toArray⟩ : ByteArray) == ⟨c.toArray⟩) with
        | false => rfl
        | true =>
          have := (MapKept.bytes_beq _ _).1 h2
          simp at this; subst this; simp at h
    exact ⟨by simp only [Instr.sameNow, this], fun hb => by simp at hb; subst hb; exact ⟨rfl, rfl⟩, fun hb => by simp at hb; simpa using fun e => hb e.symm⟩
  · cases he

theorem afind_spec {d : TypeDesc} {k : AVal} {K : Value} (hf : akeyFor d k = true) (hr : RelP G.H k K) : ∀ (es : List (AVal × AVal)) (E : List MapEntry) (n : Nat) (r : Option AVal), RelE G h es E → afind k es = some r →
    (r = none ∧ Instr.findNow d K E n = some none ∧ (∀ v, aputMap k v es = es ++ [(k, v)]) ∧ (∀ x ∈ E, x.key ≠ K) ∧ adelMap k es = es) ∨
    ∃ j m v0, r = some v0 ∧ Instr.findNow d K E n = some (some (n + j, m.val)) ∧ E[j]? = some m ∧ m.key = K ∧ es[j]? = some (k, v0) ∧ RelV G h v0 m.val ∧ (∀ v, aputMap k v es = es.set j (k, v)) ∧ adelMap k es = es.eraseIdx j
  | [], [], n, r, _, hfi => by simp [afind] at hfi; subst hfi; exact .inl ⟨rfl, rfl, fun v => rfl, by simp, rfl⟩
  | [], _ :: _, _, _, hE, _ => by have := hE.1; simp at this
  | _ :: _, [], _, _, hE, _ => by have := hE.1; simp at this
  | (k', v') :: es, m :: E, n, r, hE, hfi => by
    obtain ⟨m', h1, h2, h3, h4⟩ := hE.2 0 (k', v') rfl
    simp at h1; subst h1
    simp only [afind] at hfi
    cases ha : aeq1 k k' with
    | none => rw [ha] at hfi; cases hfi
    | some b =>
      obtain ⟨s1, s2, s3⟩ := aeq1_spec hf hr h3 ha
      cases b with
      | true =>
        rw [ha] at hfi; simp at hfi; subst hfi
        obtain ⟨e1, e2⟩ := s2 rfl
        subst e2
        exact .inr ⟨0, m, v', rfl, by simp [Instr.findNow, s1], rfl, e1, rfl, h4, fun v => by simp [aputMap, ha], by simp [adelMap, ha]⟩
      | false =>
        rw [ha] at hfi; simp only [] at hfi
        have hE' : RelE G h es E := ⟨by have := hE.1; simpa using this, fun i kv hkv => by simpa using hE.2 (i + 1) kv (by simpa using hkv)⟩
        rcases afind_spec hf hr es E (n + 1) r hE' hfi with ⟨e1, e2, e3, e4, e5⟩ | ⟨j, m', v0, e1, e2, e3, e4, e5, e6, e7, e8⟩
        · exact .inl ⟨e1, by simp [Instr.findNow, s1, e2], fun v => by simp [aputMap, ha, e3], fun x hx => by
            rcases List.mem_cons.1 hx with rfl | hx
            · exact s3 rfl
            · exact e4 x hx, by simp [adelMap, ha, e5]⟩
        · exact .inr ⟨j + 1, m', v0, e1, by simp [Instr.findNow, s1, e2]; omega, by simpa using e3, e4, by simpa using e5, e6, fun v => by simp [aputMap, ha, e7], by simp [adelMap, ha, e8]⟩

theorem alookup_sound {t kt e : TypeId} {d : TypeDesc} {z : AVal} {ok : Bool} (i : Inv G h w) (ht : P.underlying t = some (.map kt e)) (hd : P.underlying kt = some d) (hz : zeroT P e = some z) (hf : akeyFor d y = true)
    (hb : alookup z ok h x y = some v) (hx : RelV G h x X) (hy : RelV G h y Y) : ∃ V, (Instr.lookup t X Y ok).run P w = .ok V w ∧ RelV G h v V := by
  obtain ⟨Z, hz1, hz2⟩ := run_zeroValue' (P := P) (G := G) (h := h) (w := w) hz
  have hyp : RelP G.H y Y := by
    cases d <;> cases y <;> simp [akeyFor] at hf <;> (cases hy with | p _ _ hp => exact hp)
  have hkey := isKey_of hf hyp
  -- what is found is told
  have fin : ∀ (es : List (AVal × AVal)) (E : Array MapEntry), RelE G h es E.toList → (match afind y es with
      | some (some v) => some (bif ok then AVal.tuple [v, .bool true] else v)
      | some none => some (bif ok then AVal.tuple [z, .bool false] else z)
      | none => none) = some v →
      ∃ V, (do
        Instr.checkKey E.isEmpty 10000 kt Y
        let (v, ok') ← match ← Instr.findKey kt Y E.toList with
          | some (_, v) => pure (v, true)
          | none => pure (← zeroValue e, false)
        pure (if ok then Value.tuple #[v, .bool ok'] else v) : Sem Value).run P w = .ok V w ∧ RelV G h v V := by
    intro es E hE hv
    have two : ∀ {a : AVal} {A : Value} (b : Bool), RelV G h a A → RelV G h (bif ok then AVal.tuple [a, .bool b] else a) (if ok then Value.tuple #[A, .bool b] else A) := by
      intro a A b ha
      cases ok with
      | false => exact ha
      | true =>
        refine .tuple _ _ rfl fun j u hu => ?_
        match j with
        | 0 => simp at hu; subst hu; exact ha
        | 1 => simp at hu; subst hu; exact .p _ _ (.bool _)
        | j + 2 => simp at hu
    have hck := MapKept.run_checkKey (P := P) (w := w) hd hkey E.isEmpty 9999
    split at hv
    · rename_i v0 hfi
      cases hv
      rcases afind_spec hf hyp es E.toList 0 _ hE hfi with ⟨e1, _⟩ | ⟨j, m, v1, e1, e2, _, _, _, e6, _⟩
      · cases e1
      · cases e1
        have hfk := MapKept.run_findKey (w := w) hd e2
        exact ⟨_, by simp only [Sem.run_bind, hck, Result.andThen_ok, hfk, Sem.run_pure], two true e6⟩
    · rename_i hfi
      cases hv
      rcases afind_spec hf hyp es E.toList 0 _ hE hfi with ⟨_, e2, _⟩ | ⟨j, m, v1, e1, _⟩
      · have hfk := MapKept.run_findKey (w := w) hd e2
        exact ⟨_, by simp only [Sem.run_bind, hck, Result.andThen_ok, hfk, hz1, Sem.run_pure], two false hz2⟩
      · cases e1
    · cases hv
  unfold alookup getMap at hb
  split at hb
  · rename_i es hes
    split at hes
    · cases hes
      have hX := hx.nilmap_inv
      subst hX
      obtain ⟨V, h1, h2⟩ := fin [] #[] ⟨rfl, by simp⟩ hb
      refine ⟨V, ?_, h2⟩
      rw [← h1]
      simp only [Instr.lookup, Sem.run_bind, run_underlying ht, Result.andThen_ok, Sem.run_pure]
      rfl
    · rename_i id
      split at hes
      · rename_i es' hid
        cases hes
        obtain ⟨hX, _⟩ := hx.map_inv
        subst hX
        obtain ⟨E, clock, g1, g2, g3, g4, g5⟩ := i.blk id _ hid
        obtain ⟨V, h1, h2⟩ := fin _ E ⟨by simpa using g2, fun j kv hkv => by simpa using g4 j kv hkv⟩ hb
        refine ⟨V, ?_, h2⟩
        rw [← h1]
        simp only [Instr.lookup, Sem.run_bind, run_underlying ht, Result.andThen_ok, Sem.run_pure, MapKept.run_getObj_map g1]
        rfl
      · cases hes
    · cases hes
  · cases hb

theorem Inv.mapStep {id clock clock' : Nat} {es es' : List (AVal × AVal)} {E E' : Array MapEntry} (i : Inv G h w) (hid : h[id]? = some (.map es)) (g1 : w.heap[G.blk id]? = some (.map E clock)) (g3 : ∀ k, G.H (G.blk id) k = none)
    (hs : E'.size = es'.length) (hr : ∀ (j : Nat) (kv : AVal × AVal), es'[j]? = some kv → ∃ m, E'[j]? = some m ∧ akeyOk kv.1 = true ∧ RelP G.H kv.1 m.key ∧ RelV G h kv.2 m.val) (hst : MapKept.Stamped E' clock') :
    Inv G (h.set id (.map es')) { w with heap := w.heap.setIfInBounds (G.blk id) (.map E' clock') } ∧ Ext G h w G (h.set id (.map es')) { w with heap := w.heap.setIfInBounds (G.blk id) (.map E' clock') } := by
  obtain ⟨s1, s2⟩ := MapKept.heap_set (w := w) (o' := .map E' clock') g1
  refine i.step id (.map es) (.map es') hid rfl rfl rfl (by simp) (fun k _ hk => s2 k (fun e => hk (by simp [ownerB, e]))) (fun _ _ => rfl) (fun _ _ => rfl) (fun _ _ _ hh => hh) (fun _ _ _ _ => rfl) ?_ ⟨rfl, rfl⟩ ?_ ?_
  · intro b k v hb hv
    rcases hb with hb | hb
    · have := i.H_lt hv; omega
    · simp only [ownerB, Option.some.injEq] at hb
      subst hb
      rw [g3] at hv; cases hv
  · intro m
    exact ⟨E', clock', s1, hs, g3, fun j kv hkv => by
      obtain ⟨mm, a1, a2, a3, a4⟩ := hr j kv hkv
      exact ⟨mm, a1, a2, a3, a4.mono m⟩, hst⟩
  · intro b hb
    exact .inr hb

theorem amapSet_sound {t kt e : TypeId} {d : TypeDesc} {h' : Heap} (i : Inv G h w) (ht : P.underlying t = some (.map kt e)) (hd : P.underlying kt = some d) (hf : akeyFor d y = true)
    (hb : amapSet h x y v = some h') (hx : RelV G h x X) (hy : RelV G h y Y) (hv : RelV G h v V) : ∃ w', (Instr.mapUpdate t X Y V).run P w = .ok () w' ∧ Inv G h' w' ∧ Ext G h w G h' w' := by
  have hyp : RelP G.H y Y := by
    cases d <;> cases y <;> simp [akeyFor] at hf <;> (cases hy with | p _ _ hp => exact hp)
  have hkey := isKey_of hf hyp
  have hyok : akeyOk y = true := by cases d <;> cases y <;> simp [akeyFor] at hf <;> rfl
  unfold amapSet at hb
  split at hb
  · rename_i id
    split at hb
    · rename_i es hid
      obtain ⟨hX, _⟩ := hx.map_inv
      subst hX
      obtain ⟨E, clock, g1, g2, g3, g4, g5⟩ := i.blk id _ hid
      have hE : RelE G h es E.toList := ⟨by simpa using g2, fun j kv hkv => by simpa using g4 j kv hkv⟩
      have hck := MapKept.run_checkKey (P := P) (w := w) hd hkey false 9999
      have hidl : id < h.length := (List.getElem?_eq_some_iff.1 hid).1
      split at hb
      · rename_i r hfi
        cases hb
        rcases afind_spec hf hyp es E.toList 0 _ hE hfi with ⟨_, e2, e3, e4, _⟩ | ⟨j, m, v0, _, e2, e4, e5, e6, e7, e8, _⟩
        · have hfk := MapKept.run_findKey (w := w) hd e2
          rw [e3]
          refine ⟨_, ?_, i.mapStep (es' := es ++ [(y, v)]) (E' := E.push { key := Y, val := V, born := clock }) (clock' := clock + 1) hid g1 g3 (by simp [g2]) (fun j kv hkv => ?_) (MapKept.stamped_push g5 e4)⟩
          · simp only [Instr.mapUpdate, Sem.run_bind, run_underlying ht, Result.andThen_ok, MapKept.run_getObj_map g1, hck, hfk]
            exact MapKept.run_setObj_map _ g1
          · by_cases hj : j < es.length
            · rw [List.getElem?_append_left hj] at hkv
              obtain ⟨mm, a1, a2⟩ := g4 j kv hkv
              exact ⟨mm, by rw [Array.getElem?_push, if_neg (by omega)]; exact a1, a2⟩
            · rw [List.getElem?_append_right (by omega)] at hkv
              have : j - es.length = 0 := by
                by_cases h0 : j - es.length = 0
                · exact h0
                · rw [List.getElem?_eq_none (by simp; omega)] at hkv; cases hkv
              rw [this] at hkv
              simp at hkv; subst hkv
              have : j = E.size := by omega
              subst this
              exact ⟨{ key := Y, val := V, born := clock }, by simp, hyok, hyp, hv⟩
        · have hfk := MapKept.run_findKey (w := w) hd e2
          rw [e8]
          have hEj : E[j]? = some m := by simpa using e4
          have hsame : Instr.sameBits 10000 m.key Y = true := by
            rw [e5]
            cases d <;> cases y <;> simp [akeyFor] at hf <;> cases hyp <;> simp [Instr.sameBits]
            exact (MapKept.bytes_beq _ _).2 rfl
          refine ⟨_, ?_, i.mapStep (es' := es.set j (y, v)) (E' := E.modify j fun e => { e with key := Y, val := V }) (clock' := clock) hid g1 g3 (by simp [g2]) (fun l kv hkv => ?_) (MapKept.stamped_modify g5 j _ (fun _ _ => rfl) fun e _ he => by rw [hEj] at he; cases he; exact e5.symm)⟩
          · simp only [Instr.mapUpdate, Sem.run_bind, run_underlying ht, Result.andThen_ok, MapKept.run_getObj_map g1, hck, hfk, Nat.zero_add, hEj, Option.map_some, Option.getD_some, Instr.keyThatStays, hsame, if_true, Sem.run_pure]
            exact MapKept.run_setObj_map _ g1
          · rw [List.getElem?_set] at hkv
            rw [Array.getElem?_modify]
            by_cases hjl : j = l
            · subst hjl
              have hlt : j < es.length := (List.getElem?_eq_some_iff.1 e6).1
              simp [hlt] at hkv
              subst hkv
              exact ⟨{ m with key := Y, val := V }, by simp [hEj], hyok, hyp, hv⟩
            · rw [if_neg hjl] at hkv
              rw [if_neg hjl]
              exact g4 l kv hkv
      · cases hb
    · cases hb
  · cases hb

theorem amapDel_sound {t kt e ty : TypeId} {d : TypeDesc} {h' : Heap} (i : Inv G h w) (ht : P.underlying t = some (.map kt e)) (hd : P.underlying kt = some d) (hf : akeyFor d y = true)
    (hb : amapDel h x y = some h') (hx : RelV G h x X) (hy : RelV G h y Y) {ts : Array TypeId} (hts : ts[0]? = some t) : ∃ w', (Builtin.delete_ ts ty #[X, Y]).run P w = .ok (.tuple #[]) w' ∧ Inv G h' w' ∧ Ext G h w G h' w' := by
  have hyp : RelP G.H y Y := by
    cases d <;> cases y <;> simp [akeyFor] at hf <;> (cases hy with | p _ _ hp => exact hp)
  have hkey := isKey_of hf hyp
  have hck := fun e => MapKept.run_checkKey (P := P) (w := w) hd hkey e 9999
  unfold amapDel at hb
  split at hb
  · -- a nil map
    split at hb
    · cases hb
      have hX := hx.nilmap_inv
      subst hX
      exact ⟨w, by simp [Builtin.delete_, hts, run_underlying ht, hck, Sem.run_pure], i, Ext.refl G _ w⟩
    · cases hb
  · rename_i id
    split at hb
    · rename_i es hid
      split at hb
      case isFalse => cases hb
      rename_i hcond
      cases hb
      obtain ⟨hX, _⟩ := hx.map_inv
      subst hX
      obtain ⟨E, clock, g1, g2, g3, g4, g5⟩ := i.blk id _ hid
      have hE : RelE G h es E.toList := ⟨by simpa using g2, fun j kv hkv => by simpa using g4 j kv hkv⟩
      obtain ⟨r, hfi⟩ := Option.isSome_iff_exists.1 hcond.2
      rcases afind_spec hf hyp es E.toList 0 _ hE hfi with ⟨_, e2, _, _, e5⟩ | ⟨j, m, v0, _, e2, e4, e5, e6, e7, _, e9⟩
      · have hfk := MapKept.run_findKey (w := w) hd e2
        rw [e5]
        obtain ⟨s1, s2⟩ := i.mapStep (es' := es) (E' := E) (clock' := clock) hid g1 g3 g2 g4 g5
        exact ⟨_, by simp [Builtin.delete_, hts, run_underlying ht, MapKept.run_getObj_map g1, hck, hfk, MapKept.run_setObj_map _ g1, Sem.run_pure], s1, s2⟩
      · have hfk := MapKept.run_findKey (w := w) hd e2
        rw [e9]
        have hjl : j < es.length := (List.getElem?_eq_some_iff.1 e6).1
        have hjE : j < E.size := by omega
        have her : (E.eraseIdxIfInBounds j).toList = E.toList.eraseIdx j := by
          rw [Array.eraseIdxIfInBounds, dif_pos hjE]; simp
        obtain ⟨s1, s2⟩ := i.mapStep (es' := es.eraseIdx j) (E' := E.eraseIdxIfInBounds j) (clock' := clock) hid g1 g3
          (by rw [← Array.length_toList, her, List.length_eraseIdx, List.length_eraseIdx]; simp [g2])
          (fun l kv hkv => by
            rw [← Array.getElem?_toList, her, List.getElem?_eraseIdx]
            rw [List.getElem?_eraseIdx] at hkv
            split at hkv
            · rename_i hl
              rw [if_pos hl, Array.getElem?_toList]; exact g4 l kv hkv
            · rename_i hl
              rw [if_neg hl, Array.getElem?_toList]; exact g4 (l + 1) kv hkv)
          (MapKept.stamped_erase g5 j)
        exact ⟨_, by simp [Builtin.delete_, hts, run_underlying ht, MapKept.run_getObj_map g1, hck, hfk, MapKept.run_setObj_map _ g1, Sem.run_pure], s1, s2⟩
    · cases hb
  · cases hb

/-! ### Bytes as a string -/

theorem bytesOf_spec : ∀ {rows : List (List AVal)} {bs : List UInt8}, bytesOf rows = some bs → ∃ ns : List Int, rows = ns.map (fun n => [AVal.int .u8 n]) ∧ bs = ns.map fun n => UInt8.ofNat n.toNat
  | [], bs, hb => by simp [bytesOf] at hb; subst hb; exact ⟨[], rfl, rfl⟩
  | row :: r, bs, hb => by
    unfold bytesOf at hb
    split at hb
    · rename_i h0; cases h0
    · rename_i n r' h0
      cases h0
      split at hb
      · rename_i bs' hbs
        cases hb
        obtain ⟨ns, h1, h2⟩ := bytesOf_spec hbs
        exact ⟨n :: ns, by simp [h1], by simp [h2]⟩
      · cases hb
    · cases hb

theorem bytesRows_sound {ns : List Int} (hrows : arowsS 1 h x = some (ns.map (fun n => [AVal.int .u8 n]))) (i : Inv G h w) (hx : RelV G h x X) : ∃ V, (Conv.bytesToString X).run P w = .ok V w ∧ RelV G h (.str (ns.map fun n => UInt8.ofNat n.toNat)) V := by
  obtain ⟨a, news, s⟩ := arowsS_sound i hrows hx
  obtain ⟨cap, hX⟩ := s.form
  have hnews : news = ns.map (Value.int .u8) := by
    apply List.ext_getElem?
    intro j
    cases hj : ns[j]? with
    | none =>
      have : ns.length ≤ j := List.getElem?_eq_none_iff.1 hj
      rw [List.getElem?_eq_none (by rw [s.len]; simp; exact this), List.getElem?_eq_none (by simpa using this)]
    | some n =>
      obtain ⟨u, h1, h2, _⟩ := s.rel j 0 [AVal.int .u8 n] (.int .u8 n) (by simp [hj]) rfl
      simp only [Nat.mul_one, Nat.add_zero] at h1
      rw [h1, List.getElem?_map, hj]
      cases h2; rfl
  have hstr : (ns.foldl (fun r n => r.push (UInt8.ofNat n.toNat)) ByteArray.empty) = ⟨(ns.map fun n => UInt8.ofNat n.toNat).toArray⟩ := by
    have : ∀ (ns : List Int) (b : ByteArray), ns.foldl (fun r n => r.push (UInt8.ofNat n.toNat)) b = ⟨(b.data.toList ++ ns.map fun n => UInt8.ofNat n.toNat).toArray⟩ := by
      intro ns
      induction ns with
      | nil => intro b; cases b; simp
      | cons n ns ih => intro b; rw [List.foldl_cons, ih]; cases b; simp [ByteArray.push]
    rw [this]; rfl
  refine ⟨.string ⟨(ns.map fun n => UInt8.ofNat n.toNat).toArray⟩, ?_, .p _ _ (.str _)⟩
  rw [hX]
  cases a with
  | none =>
    have h0 : ns = [] := by
      cases ns with
      | nil => rfl
      | cons n ns =>
        obtain ⟨ad, h1, _⟩ := s.at_ 0 (.int .u8 n) (by rw [hnews]; rfl)
        cases h1
    subst h0
    rfl
  | some ad =>
    have hload : (loadCells ad (ns.map (fun n => [AVal.int .u8 n])).length).run P w = .ok (ns.map (Value.int .u8)).toArray w := by
      have := run_loadCells (P := P) w ad ns.length (fun j => news.getD j undef) (fun j hj => by
        have hjn : news[j]? = some (news.getD j undef) := by
          rw [List.getD_eq_getElem?_getD, List.getElem?_eq_getElem (by rw [hnews]; simpa using hj)]; rfl
        obtain ⟨ad', h1, h2⟩ := s.at_ j _ hjn
        cases h1; exact h2)
      rw [List.length_map, this]
      congr 1
      apply Array.ext'
      simp only [List.toList_toArray] at *
      apply List.ext_getElem?
      intro j
      rw [hnews]
      by_cases hj : j < ns.length
      · simp [hj, List.getD_eq_getElem?_getD]
      · simp [List.getElem?_eq_none (show ns.length ≤ j by omega), hj]
    have := run_bytesToString (P := P) w ad _ cap ns hload
    rw [hstr] at this
    exact this

theorem abytesStr_sound (i : Inv G h w) (hb : abytesStr x = some v) (hx : RelV G h x X) : ∃ V, (Conv.bytesToString X).run P w = .ok V w ∧ RelV G h v V := by
  unfold abytesStr at hb
  split at hb
  · rename_i rows tok
    simp only [Option.map_eq_some_iff] at hb
    obtain ⟨bs, hbs, rfl⟩ := hb
    obtain ⟨ns, rfl, rfl⟩ := bytesOf_spec hbs
    have hrows : arowsS 1 h (.slice (ns.map (fun n => [AVal.int .u8 n])) tok) = some (ns.map (fun n => [AVal.int .u8 n])) := by
      simp [arowsS]
    exact bytesRows_sound hrows i hx
  · cases hb
theorem abytesH_sound (i : Inv G h w) (hb : abytesH h x = some v) (hx : RelV G h x X) : ∃ V, (Conv.bytesToString X).run P w = .ok V w ∧ RelV G h v V := by
  unfold abytesH at hb
  split at hb
  · split at hb
    · rename_i rows hrows
      simp only [Option.map_eq_some_iff] at hb
      obtain ⟨bs, hbs, rfl⟩ := hb
      obtain ⟨ns, rfl, rfl⟩ := bytesOf_spec hbs
      exact bytesRows_sound hrows i hx
    · cases hb
  · split at hb
    · rename_i rows hrows
      simp only [Option.map_eq_some_iff] at hb
      obtain ⟨bs, hbs, rfl⟩ := hb
      obtain ⟨ns, rfl, rfl⟩ := bytesOf_spec hbs
      exact bytesRows_sound hrows i hx
    · cases hb
  · exact abytesStr_sound i hb hx

/-! ### Functions without a body -/

/-- Behind a function that lists a map's keys in rising order. -/
def SortedPost (w : World) (ns : List Int) (e : Ending) (w' : World) : Prop :=
  Below w.heap.size w w' ∧ ∃ V, e = .returned V ∧ ((ns = [] ∧ ∃ a cap, V = .slice a 0 cap) ∨ ∃ g cap, V = .slice (some ⟨g, 0, none⟩) ns.length cap ∧ ns.length ≤ cap ∧ w.heap.size ≤ g ∧
    ∀ (j : Nat) (n : Int), (ns.mergeSort fun x y => decide (x ≤ y))[j]? = some n → w'.cell? ⟨g, j, none⟩ = some (.int .i64 n))
/-- What such a function is to do. -/
def SortedOk (P : Program) (f : Nat) : Prop :=
  (∀ (X : Array Value) (w : World), (callFunc f X).run P w = .ok (.enter f X) w) ∧
  ∀ (w : World) (b : Nat) (E : Array MapEntry) (clock : Nat) (ns : List Int), w.heap[b]? = some (.map E clock) → MapKept.Stamped E clock → E.toList.map (·.key) = ns.map (Value.int .i64) →
    (∀ x ∈ E.toList, ∃ v, x.val = .int .i64 v ∧ (Lit.int .i64 v).wf = true) → (∀ n ∈ ns, (Lit.int .i64 n).wf = true) → ns.length ≤ 1048576 → Calls P f #[.map (some b)] w (SortedPost w ns)
/-- What slices.SortFunc is to do, where the comparison is by what stands first in a number's row, then by the number. -/
def SortFnOk (P : Program) (f g : Nat) : Prop :=
  (∀ (X : Array Value) (w : World), (callFunc f X).run P w = .ok (.enter f X) w) ∧
  (∀ (a : Option Addr) (cap : Nat) (F C : Array Value) (w : World), Calls P f #[.slice a 0 cap, .func (.func g) F C] w fun e w' => e = .returned (.tuple #[]) ∧ w' = w) ∧
  ∀ (w : World) (blk cap : Nat) (C : Array Value) (e : TypeId) (zs : List Int) (pb po sb so len cp : Nat) (key : Int → Int),
    w.heap[blk]? = some (.cells C e (0, 0)) → zs ≠ [] → zs.length ≤ 1048576 → (∀ (j : Nat) (n : Int), zs[j]? = some n → C[j]? = some (.int .i64 n)) →
    w.cell? ⟨pb, po, none⟩ = some (.slice (some ⟨sb, so, none⟩) len cp) → pb ≠ blk → sb ≠ blk →
    (∀ x ∈ zs, 0 ≤ x ∧ x.toNat < len ∧ w.cell? ⟨sb, so + x.toNat * 2, none⟩ = some (.int .i64 (key x))) →
    Calls P f #[.slice (some ⟨blk, 0, none⟩) zs.length cap, .func (.func g) #[] #[.pointer (some ⟨pb, po, none⟩)]] w fun e w' => e = .returned (.tuple #[]) ∧
      w'.os = w.os ∧ w'.tape = w.tape ∧ w'.output = w.output ∧ ∃ os, w'.heap = (w.setRow blk ((zs.mergeSort (lexLe key)).map (Value.int .i64) ++ C.toList.drop zs.length).toArray).heap ++ os
/-- What a strings.Builder's copyCheck is to do, wherever the Builder lies. -/
def CopyCheckOk (P : Program) (A : Ann) (f : Nat) : Prop :=
  (∀ (X : Array Value) (w : World), (callFunc f X).run P w = .ok (.enter f X) w) ∧
  ∀ (w : World) (b off t : Nat) (C : Array Value), A.bld t off C.size = true → w.heap[b]? = some (.cells C t (0, 0)) → off < C.size → (C[off]? = some (.pointer none) ∨ C[off]? = some (.pointer (some ⟨b, off, none⟩))) →
    Calls P f #[.pointer (some ⟨b, off, none⟩)] w fun e w' => e = .returned (.tuple #[]) ∧ w' = w.setRow b (C.toList.take off ++ [Value.pointer (some ⟨b, off, none⟩)] ++ C.toList.drop (off + 1)).toArray
/-- What a strings.Builder's String is to do, wherever the Builder lies; e is the bytes' type. -/
def BldStringOk (P : Program) (f : Nat) (e : TypeId) : Prop :=
  (∀ (X : Array Value) (w : World), (callFunc f X).run P w = .ok (.enter f X) w) ∧
  (∀ (w : World) (b off : Nat), w.cell? ⟨b, off + 1, none⟩ = some (.slice none 0 0) → Calls P f #[.pointer (some ⟨b, off, none⟩)] w fun ev w' => ev = .returned (.string ⟨#[]⟩) ∧ ∃ d, w' = { w with drawn := d }) ∧
  ∀ (w : World) (b off g cap : Nat) (C : Array Value) (l : List UInt8), w.cell? ⟨b, off + 1, none⟩ = some (.slice (some ⟨g, 0, none⟩) l.length cap) → w.heap[g]? = some (.cells C e (0, 0)) → l ≠ [] → l.length ≤ cap → cap ≤ maxLen → C.size = cap →
    (∀ (j : Nat) x, l[j]? = some x → C[j]? = some (.int .u8 (x.toNat : Int))) → Calls P f #[.pointer (some ⟨b, off, none⟩)] w fun ev w' => ev = .returned (.string ⟨l.toArray⟩) ∧ ∃ d, w' = World.freeze { w with drawn := d } ⟨g, 0, none⟩ l.length
/-- What a function of values is to do: its answer, and new blocks at most. -/
def FnOk (P : Program) (A : Ann) (f : Nat) (g : List AVal → Option AVal) : Prop :=
  (∀ (X : Array Value) (w : World), (callFunc f X).run P w = .ok (.enter f X) w) ∧
  ∀ (G : Gh) (h : Heap) (w : World) (args : List AVal) (X : Array Value) (v : AVal), Inv G h w → GlobOk A G h w → args.length = X.size → (∀ (i : Nat) (u : AVal), args[i]? = some u → RelV G h u (X.getD i undef)) → g args = some v →
    Calls P f X w fun e w' => (∃ V, e = .returned V ∧ RelP G.H v V) ∧ w'.os = w.os ∧ w'.tape = w.tape ∧ w'.output = w.output ∧ ∃ os, w'.heap = w.heap ++ os
def PrmOk (P : Program) (A : Ann) (f : Nat) : PrmK → Prop
  | .copyCheck => CopyCheckOk P A f
  | .bldString e => BldStringOk P f e
  | .fn g => FnOk P A f g
/-- An iterator's contract: whatever it hands over it hands over in its order; between two rounds it makes new blocks alone; what it reads must lie as it lay. -/
def IterOk (P : Program) (f : Nat) (k : IterK) : Prop :=
  (∀ X w, (callFunc f X).run P w = .ok (.enter f X) w) ∧
  ∀ (cap : List AVal) (h : Heap) (es : List (List AVal)), k.seq cap h = some es → ∀ (G : Gh) (w : World) (C : Array Value), Inv G h w → cap.length = C.size → (∀ (i : Nat) (v : AVal), cap[i]? = some v → RelV G h v (C.getD i undef)) →
    ∃ Es : List (Array Value), Es.length = es.length ∧
      (∀ (i : Nat) (e : List AVal) (E : Array Value), es[i]? = some e → Es[i]? = some E → e.length = E.size ∧ ∀ (j : Nat) (v : AVal), e[j]? = some v → RelP G.H v (E.getD j undef)) ∧
      ∀ (l n : Nat) (J : Nat → World → Prop) (Jx : World → Prop),
        (∀ i W W', J i W → W.grownBy W' none → J i W') → (∀ W W', Jx W → W.grownBy W' none → Jx W') →
        (∀ i W, J i W → ∃ G' h', Inv G' h' W ∧ (∀ (i : Nat) (v : AVal), cap[i]? = some v → RelV G' h' v (C.getD i undef)) ∧ (∀ p ∈ cap, aload false 1 h' p = aload false 1 h p) ∧ ∀ b j v, G.H b j = some v → G'.H b j = some v) →
        (∀ (i : Nat) (E : Array Value) (W : World), Es[i]? = some E → J i W → YieldAt Fence.wide (n - 1) P l E W fun e W' => (e = .returned (.bool true) ∧ J (i + 1) W') ∨ (e = .returned (.bool false) ∧ Jx W')) →
        ∀ W, w.grownBy W none → J 0 W → CallsIn Fence.wide n P f (#[.func (.yield l) #[] #[]] ++ C) W fun e W' => (∃ v, e = .returned v) ∧ (J es.length W' ∨ Jx W')
def ExtOk (P : Program) (A : Ann) : Prop := (∀ f, A.srt f = true → SortedOk P f) ∧ (∀ f, A.ext f = some .indexByte → ∃ fn, P.funcs[f]? = some fn ∧ (fn.name == "runtime.NumGoroutine") = false ∧ fn.body.isNone = true ∧ Extern.findNext fn = none ∧ Extern.find fn = some Extern.BytealgIndexByte.indexByte) ∧ (∀ f g, A.srf f = some g → SortFnOk P f g) ∧ (∀ f k, A.prm f = some k → PrmOk P A f k) ∧ ∀ f k, A.itr f = some k → IterOk P f k

theorem aindexByte_eq (l : List UInt8) (c : UInt8) : aindexByte l c = Lib.indexByte l c := by
  induction l with
  | nil => rfl
  | cons b l ih => simp only [aindexByte, Lib.indexByte, ih]

theorem extC_sound {A : Ann} {f : Nat} {k : ExtK} {args : List AVal} {r : Res × Heap} {Xs : Array Value} (hX : ExtOk P A) (hf : A.ext f = some k) (hb : extC k args h = some r) (hl : args.length = Xs.size)
    (hr : ∀ (i : Nat) (v : AVal), args[i]? = some v → RelV G h v (Xs.getD i undef)) : ∃ v V, r = (.ret v, h) ∧ (callFunc f Xs).run P w = .ok (.value V) w ∧ RelV G h v V := by
  unfold extC at hb
  simp only [Option.map_eq_some_iff] at hb
  obtain ⟨v, hv, rfl⟩ := hb
  cases k with
  | indexByte =>
    unfold extV at hv
    split at hv
    · rename_i s c _
      cases hv
      obtain ⟨fn, e1, e2, e3, e4, e5⟩ := hX.2.1 f hf
      have h0 := (hr 0 _ rfl).str_inv
      have h1 := (hr 1 _ rfl).int_inv
      have hXs : Xs = #[.string ⟨s.toArray⟩, .int .u8 c] := by
        obtain ⟨l⟩ := Xs
        match l, hl, h0, h1 with
        | [a, b], _, h0, h1 => simp at h0 h1; subst h0; subst h1; rfl
      refine ⟨_, .int .i64 (aindexByte s (UInt8.ofNat c.toNat)), rfl, ?_, .p _ _ (.int _ _)⟩
      rw [run_callFunc_extern e1 e2 e3 e4 e5, hXs, Lib.run_indexByteString, aindexByte_eq]
      rfl
    · cases hv

end
end
section
open Go Go.RowKit

theorem flatten_rows {sz : Nat} : ∀ (rows : List (List AVal)), (∀ r ∈ rows, r.length = sz) → rows.flatten.length = rows.length * sz ∧
    ∀ (k : Nat) (c : AVal), rows.flatten[k]? = some c → ∃ (i j : Nat) (row : List AVal), rows[i]? = some row ∧ row[j]? = some c ∧ k = i * sz + j
  | [], _ => ⟨by simp, by simp⟩
  | r :: rows, h => by
    obtain ⟨h1, h2⟩ := flatten_rows rows fun x hx => h x (by simp [hx])
    have hr := h r (by simp)
    refine ⟨by simp [h1, hr, Nat.add_mul]; omega, fun k c hk => ?_⟩
    simp only [List.flatten_cons] at hk
    by_cases hlt : k < r.length
    · rw [List.getElem?_append_left hlt] at hk
      exact ⟨0, k, r, rfl, hk, by omega⟩
    · rw [List.getElem?_append_right (by omega)] at hk
      obtain ⟨i, j, row, a1, a2, a3⟩ := h2 _ _ hk
      exact ⟨i + 1, j, row, by simpa using a1, a2, by rw [Nat.add_mul]; omega⟩

section
variable {P : Program} {G : Gh} {h : Heap} {w : World} {x y v : AVal} {X Y V : Value}

/-- A block becomes a slice that is written into, or a longer one: in its block, or in a new one. -/
theorem Inv.toVec (i : Inv G h w) {id tot' sz bb cap' : Nat} {old : ABlk} {cs' : List AVal} {C' : Array Value} {e' : TypeId} {w' : World} (hid : h[id]? = some old)
    (hold : (old = .front 0 0) ∨ ∃ tot sz0 cs, old = .vec tot sz0 cs ∧ tot < tot')
    (os : w'.os = w.os) (tape : w'.tape = w.tape) (output : w'.output = w.output) (size : w.heap.size ≤ w'.heap.size)
    (heap : ∀ k, k < w.heap.size → ownerB G id old ≠ some k → w'.heap[k]? = w.heap[k]?)
    (hbb : (w.heap.size ≤ bb) ∨ ownerB G id old = some bb)
    (hC : w'.heap[bb]? = some (.cells C' e' (0, 0))) (hcap : tot' ≤ cap') (hmax : cap' ≤ maxLen) (hCs : C'.size = cap' * sz) (hsz0 : 0 < sz) (hcs : cs'.length = tot' * sz)
    (hrel : ∀ (j : Nat) (u : AVal), cs'[j]? = some u → u.cellOk = true ∧ RelV G h u (C'.getD j undef)) :
    ∃ G', Inv G' (h.set id (.vec tot' sz cs')) w' ∧ Ext G h w G' (h.set id (.vec tot' sz cs')) w' ∧ G'.cur id = .slice (some ⟨bb, 0, none⟩) tot' cap' := by
  let G' : Gh := { G with cur := fun j => if j = id then .slice (some ⟨bb, 0, none⟩) tot' cap' else G.cur j }
  have hcur : G'.cur id = .slice (some ⟨bb, 0, none⟩) tot' cap' := if_pos rfl
  have hbl := i.blk id old hid
  have hHn : ∀ k, G.H bb k = none := by
    intro k
    rcases hbb with h1 | h1
    · exact i.H_none h1
    · rcases hold with rfl | ⟨tot, sz0, cs, rfl, _⟩
      · rcases hbl with ⟨_, h2⟩ | ⟨b, cap, C, e, h2, h3, h4, h5, h6, h7, h8, _⟩
        · simp [ownerB, h2, Value.ownBlock] at h1
        · omega
      · obtain ⟨b, cap, C, e, g1, g2, g3, g4, g5, g6, g7, g8, g9⟩ := hbl
        simp [ownerB, g1, Value.ownBlock] at h1
        subst h1; exact g8 k
  have key := i.step (G' := G') id old (.vec tot' sz cs') hid os tape output size heap (fun _ _ => rfl) (fun j hj => if_neg hj) (fun _ _ _ hh => hh) (fun _ _ _ _ => rfl)
    (fun b k v hb hv => by
      have hv : G.H b k = some v := hv
      rcases hb with hb | hb
      · rw [i.H_none hb] at hv; cases hv
      · rcases hold with rfl | ⟨tot, sz0, cs, rfl, _⟩
        · rcases hbl with ⟨_, h2⟩ | ⟨b, cap, C, e, h2, h3, h4, h5, h6, h7, h8, _⟩
          · simp [ownerB, h2, Value.ownBlock] at hb
          · omega
        · obtain ⟨b', cap, C, e, g1, g2, g3, g4, g5, g6, g7, g8, g9⟩ := hbl
          simp [ownerB, g1, Value.ownBlock] at hb
          subst hb; rw [g8] at hv; cases hv)
    (by
      rcases hold with rfl | ⟨tot, sz0, cs, rfl, hlt⟩
      · exact ⟨rfl, rfl⟩
      · obtain ⟨b, cap, C, e, g1, _⟩ := hbl
        refine ⟨rfl, ?_, fun e => ?_⟩
        · rw [hcur, g1]; simp only [vlen]; omega
        · rw [hcur, g1] at e; simp only [vlen] at e; omega)
    (fun m => ⟨bb, cap', C', e', hcur, hC, hcap, hmax, hCs, hsz0, hcs, hHn, fun j u hu => ⟨(hrel j u hu).1, (hrel j u hu).2.mono m⟩⟩)
    (fun b hb => by
      have hb : (G'.cur id).ownBlock = some b := hb
      rw [hcur] at hb
      simp only [Value.ownBlock, Option.some.injEq] at hb
      subst hb; exact hbb)
  exact ⟨G', key.1, key.2, hcur⟩

/-- The same, where cells may lead to blocks. -/
structure SrcV (G : Gh) (h : Heap) (w : World) (sz : Nat) (rows : List (List AVal)) (X : Value) (a : Option Addr) (news : List Value) : Prop where
  form : ∃ cap, X = .slice a rows.length cap
  len : news.length = rows.length * sz
  rlen : ∀ r ∈ rows, r.length = sz
  at_ : ∀ (j : Nat) u, news[j]? = some u → ∃ ad, a = some ad ∧ w.cell? (ad.add j) = some u
  rel : ∀ (i j : Nat) (row : List AVal) (c : AVal), rows[i]? = some row → row[j]? = some c → ∃ u, news[i * sz + j]? = some u ∧ RelV G h c u ∧ c.cellOk = true
theorem Src.toV {sz : Nat} {rows : List (List AVal)} {a : Option Addr} {news : List Value} (s : Src G h w sz rows X a news) : SrcV G h w sz rows X a news :=
  ⟨s.form, s.len, s.rlen, s.at_, fun i j row c h1 h2 => by obtain ⟨u, e1, e2, e3⟩ := s.rel i j row c h1 h2; exact ⟨u, e1, .p _ _ e2, e3⟩⟩
theorem SrcV.one {sz : Nat} {rows : List (List AVal)} {a : Option Addr} {news : List Value} (s : SrcV G h w sz rows X a news) : ∀ u ∈ news, u.oneCell' = true := by
  intro u hu
  obtain ⟨j, hj⟩ := List.getElem?_of_mem hu
  have hjl : j < rows.length * sz := by rw [← s.len]; exact (List.getElem?_eq_some_iff.1 hj).1
  have hpos : 0 < sz := by rcases Nat.eq_zero_or_pos sz with h0 | h0; · rw [h0] at hjl; omega
                           · exact h0
  have hrow : j / sz < rows.length := (Nat.div_lt_iff_lt_mul hpos).2 hjl
  have h1 : rows[j / sz]? = some rows[j / sz] := List.getElem?_eq_getElem hrow
  have hl := s.rlen _ (List.mem_of_getElem? h1)
  have h2 : rows[j / sz][j % sz]? = some (rows[j / sz][j % sz]'(by rw [hl]; exact Nat.mod_lt _ hpos)) := List.getElem?_eq_getElem _
  obtain ⟨u', e1, e2, e3⟩ := s.rel _ _ _ _ h1 h2
  rw [show j / sz * sz + j % sz = j by rw [Nat.mul_comm]; exact Nat.div_add_mod j sz] at e1
  rw [hj] at e1; cases e1
  exact (e2.oneCell e3).1
theorem SrcV.flat {sz : Nat} {rows : List (List AVal)} {a : Option Addr} {news : List Value} (s : SrcV G h w sz rows X a news) :
    rows.flatten.length = news.length ∧ ∀ (k : Nat) (c : AVal), rows.flatten[k]? = some c → c.cellOk = true ∧ ∃ u, news[k]? = some u ∧ RelV G h c u := by
  obtain ⟨h1, h2⟩ := flatten_rows rows s.rlen
  refine ⟨by rw [h1, s.len], fun k c hk => ?_⟩
  obtain ⟨i, j, row, a1, a2, rfl⟩ := h2 k c hk
  obtain ⟨u, b1, b2, b3⟩ := s.rel i j row c a1 a2
  exact ⟨b3, u, b1, b2⟩
theorem arowsV_sound {sz : Nat} {rows : List (List AVal)} (i : Inv G h w) (hb : arowsV sz h x = some rows) (hx : RelV G h x X) : ∃ a news, SrcV G h w sz rows X a news := by
  unfold arowsV at hb
  split at hb
  · rename_i r hr
    cases hb
    obtain ⟨a, news, s⟩ := arowsS_sound i hr hx
    exact ⟨a, news, s.toV⟩
  · unfold arowsU at hb
    split at hb
    · rename_i id tot off len sz' hno
      split at hb
      case h_2 => cases hb
      case h_1 x0 hgb =>
        have hid := getVec_some hgb
        split at hb
        case isFalse => cases hb
        rename_i hcond
        obtain ⟨rfl, hle⟩ := hcond
        simp only [Option.some.injEq] at hb
        subst hb
        obtain ⟨b, cap, rfl, hnf, htot, hlc, hv⟩ := hx.vslice_inv
        obtain ⟨b', cap', C, e, g1, g2, g3, g4, g5, g6, g7, g8, g9⟩ := i.blk id _ hid
        obtain ⟨l0, cap0, k1, _⟩ := hv (by rw [g1]; rfl)
        rw [g1] at k1
        simp only [Value.slice.injEq, Option.some.injEq, Addr.mk.injEq] at k1
        obtain ⟨⟨rfl, _⟩, _, rfl⟩ := k1
        have hcl : x0.2.length ≤ C.size := by rw [g7, g5]; exact Nat.mul_le_mul_right _ g3
        have hdl : ((x0.2.drop off).take (len * sz')).length = len * sz' := by rw [List.length_take, List.length_drop]; omega
        obtain ⟨q1, q2, q3⟩ := rowsOf_spec len sz' _ (by omega : len * sz' ≤ ((x0.2.drop off).take (len * sz')).length)
        refine ⟨some ⟨b', off, none⟩, (C.toList.drop off).take (len * sz'), ⟨cap, by rw [q1]⟩, by rw [q1, List.length_take, List.length_drop, Array.length_toList]; omega, q2, ?_, ?_⟩
        · intro j u hu
          rw [List.getElem?_take] at hu
          split at hu
          · refine ⟨_, rfl, ?_⟩
            rw [add_plain, cell_of w _ _ g2]
            rw [List.getElem?_drop, Array.getElem?_toList] at hu
            exact hu
          · cases hu
        · intro i' j r c hi hj
          have hrow' := q3 i' j r c hi hj
          have hlt : i' * sz' + j < len * sz' := by
            have := (List.getElem?_eq_some_iff.1 hrow').1; omega
          have hc1 : x0.2[off + (i' * sz' + j)]? = some c := by
            rw [List.getElem?_take, if_pos hlt, List.getElem?_drop] at hrow'; exact hrow'
          obtain ⟨hk, hrel⟩ := g9 _ c hc1
          have hCl : off + (i' * sz' + j) < C.size := by have := (List.getElem?_eq_some_iff.1 hc1).1; omega
          refine ⟨C.getD (off + (i' * sz' + j)) undef, ?_, hrel, hk⟩
          rw [List.getElem?_take, if_pos hlt, List.getElem?_drop, Array.getElem?_toList, Array.getElem?_eq_getElem hCl]
          simp [Array.getD_eq_getD_getElem?, hCl]
    · cases hb

/-- The cells of a source, one behind the other. -/
theorem Src.flat {sz : Nat} {rows : List (List AVal)} {a : Option Addr} {news : List Value} (s : Src G h w sz rows X a news) :
    rows.flatten.length = news.length ∧ ∀ (k : Nat) (c : AVal), rows.flatten[k]? = some c → c.cellOk = true ∧ ∃ u, news[k]? = some u ∧ RelP G.H c u := by
  obtain ⟨h1, h2⟩ := flatten_rows rows s.rlen
  refine ⟨by rw [h1, s.len], fun k c hk => ?_⟩
  obtain ⟨i, j, row, a1, a2, rfl⟩ := h2 k c hk
  obtain ⟨u, b1, b2, b3⟩ := s.rel i j row c a1 a2
  exact ⟨b3, u, b1, b2⟩

theorem vec_rel {G' : Gh} {h' : Heap} {id tot n sz bb cap : Nat} {cs : List AVal} (hb : h'[id]? = some (.vec tot sz cs)) (hc : G'.cur id = .slice (some ⟨bb, 0, none⟩) tot cap) (hn : n ≤ tot) (ht : tot ≤ cap) :
    RelV G' h' (.vslice id tot 0 n sz) (.slice (some ⟨bb, 0, none⟩) n cap) :=
  .vslice id tot 0 n sz bb cap ⟨_, hb, by simp, by simp⟩ (by rw [hc]; exact Nat.le_refl _) (by omega) fun _ => ⟨0, cap, hc, by simp, by omega, by omega⟩

set_option maxHeartbeats 2000000 in
theorem aappendV_sound {t ty e : TypeId} {sz bytes : Nat} {z r : AVal} {h' : Heap} (i : Inv G h w) (ht : P.underlying t = some (.slice e)) (hn : sizeT P e = some sz) (hby : bytesT P e = some bytes)
    (hz : zeroT P e = some z) (hzj : z.isJunk = false) (hzl : z.cells.length = sz) (hsz : sz ≠ 0) (hb : aappendV sz bytes h x y = some (r, h')) (hx : RelV G h x X) (hy : RelV G h y Y) :
    ∃ V w' G', (Builtin.append_ #[t, t] ty #[X, Y]).run P w = .ok V w' ∧ Inv G' h' w' ∧ Ext G h w G' h' w' ∧ RelV G' h' r V := by
  obtain ⟨ti, hti, hts, htb, Z, hzz, hZs⟩ : ∃ ti, P.info? e = some ti ∧ ti.size = sz ∧ ti.bytes = bytes ∧ ∃ Z, ti.zero = some Z ∧ Z.cells.size = sz := by
    unfold sizeT at hn; unfold bytesT at hby; unfold zeroT at hz
    cases hi : P.info? e with
    | none => simp [hi] at hn
    | some ti =>
      simp [hi] at hn hby hz
      obtain ⟨Z, hZ1, hZ2⟩ := hz
      refine ⟨ti, rfl, hn, hby, Z, hZ1, ?_⟩
      subst hZ2
      rw [← hzl]; exact (cells_rel hzj (relV_ofConst G h Z)).1.symm
  -- a nil slice
  have fromNil : ∀ {G : Gh} {h : Heap} {id : Nat} {new : List (List AVal)} {a : Option Addr} {news : List Value} {capY : Nat}, Inv G h w → h[id]? = some (.front 0 0) → SrcV G h w sz new Y a news → Y = .slice a new.length capY → new.length ≠ 0 →
      new.length * bytes ≤ 140737488355328 → new.length ≤ 140737488355328 →
      ∃ V w' G', (Builtin.append_ #[t, t] ty #[.slice none 0 0, Y]).run P w = .ok V w' ∧ Inv G' (h.set id (.vec new.length sz new.flatten)) w' ∧ Ext G h w G' (h.set id (.vec new.length sz new.flatten)) w' ∧
        RelV G' (h.set id (.vec new.length sz new.flatten)) (.vslice id new.length 0 new.length sz) V := by
    intro G h id new a news capY i hid src hYf hm hbytes hsmall
    have hposn : 0 < news.length := by rw [src.len]; exact Nat.mul_pos (by omega) (by omega)
    obtain ⟨ad, had, _⟩ := src.at_ 0 _ (List.getElem?_eq_getElem hposn)
    subst had
    have hnews : ∀ j u, news[j]? = some u → w.cell? (ad.add j) = some u := fun j u hu => by
      obtain ⟨ad', e1, e2⟩ := src.at_ j u hu; cases e1; exact e2
    have hnl : news.length = new.length * ti.size := by rw [hts]; exact src.len
    have hrun := run_append_nil (P := P) w t ty e ti Z ht hti hzz ad new.length capY news hnl hnews (by omega) (by omega) (by rw [htb]; omega)
    have hcapg := grownCap_ge w new.length 0 e
    have hcapm := grownCap_le_maxLen w new.length 0 e (by simp only [maxLen]; omega)
    obtain ⟨f1, f2⟩ := src.flat
    obtain ⟨G', g1, g2, g3⟩ := i.toVec (id := id) (tot' := new.length) (sz := sz) (bb := w.heap.size) (cap' := grownCap w new.length 0 e) (cs' := new.flatten)
      (w' := w.drew.alloc (.cells (news.toArray ++ Builtin.zeroCells Z.cells (grownCap w new.length 0 e - new.length)) e)) hid (.inl rfl) rfl rfl rfl (by simp)
      (fun k hk _ => heap_alloc_lt w.drew _ k hk) (.inl (Nat.le_refl _)) (heap_alloc_new w.drew _) (by omega) hcapm
      (by simp only [Array.size_append, List.size_toArray, size_zeroCells, hZs, src.len, ← Nat.add_mul]; congr 1; omega)
      (by omega) (by rw [f1, src.len]) (fun j u hu => by
        obtain ⟨c1, u', c2, c3⟩ := f2 j u hu
        refine ⟨c1, ?_⟩
        rw [Array.getD_eq_getD_getElem?, Array.getElem?_append_left (by simpa using (List.getElem?_eq_some_iff.1 c2).1), List.getElem?_toArray, c2]
        exact c3)
    rw [hYf]
    refine ⟨_, _, G', hrun, g1, g2, vec_rel (cs := new.flatten) ?_ g3 (Nat.le_refl _) hcapg⟩
    simp [(List.getElem?_eq_some_iff.1 hid).1]
  unfold aappendV at hb
  split at hb
  · -- a token that nobody has used
    rename_i id new hnew
    obtain ⟨a, news, src⟩ := arowsV_sound i hnew hy
    obtain ⟨capY, hYf⟩ := src.form
    split at hb
    · rename_i hid
      split at hb
      case isFalse => cases hb
      rename_i hcond
      obtain ⟨hbytes, hsmall⟩ := hcond
      obtain ⟨hX, _, hcur⟩ := own_cells i hx hid rfl
      have hc : G.cur id = .slice none 0 0 := by
        rcases hcur with ⟨_, hc⟩ | ⟨b, cap, C, e0, hc, _, _, _, _, hs0, _⟩
        · exact hc
        · omega
      rw [hX, hc]
      split at hb
      · rename_i hm
        simp only [Option.some.injEq, Prod.mk.injEq] at hb
        obtain ⟨rfl, rfl⟩ := hb
        refine ⟨.slice none 0 0, w, G, ?_, i, Ext.refl G h w, by rw [hX, hc] at hx; exact hx⟩
        rw [hYf, hm]
        exact run_append_zero ht hti none a 0 0 capY (Nat.le_refl _)
      · rename_i hm
        simp only [Option.some.injEq, Prod.mk.injEq] at hb
        obtain ⟨rfl, rfl⟩ := hb
        exact fromNil i hid src hYf hm hbytes hsmall
    · cases hb
  · -- a nil slice
    rename_i new hnew
    obtain ⟨a, news, src⟩ := arowsV_sound i hnew hy
    obtain ⟨capY, hYf⟩ := src.form
    have hX := hx.nil_inv
    rw [hX]
    split at hb
    · rename_i hm
      simp only [Option.some.injEq, Prod.mk.injEq] at hb
      obtain ⟨rfl, rfl⟩ := hb
      refine ⟨.slice none 0 0, w, G, ?_, i, Ext.refl G h w, by rw [hX] at hx; exact hx⟩
      rw [hYf, hm]
      exact run_append_zero ht hti none a 0 0 capY (Nat.le_refl _)
    · rename_i hm
      split at hb
      case isFalse => cases hb
      rename_i hcond
      obtain ⟨hbytes, hsmall⟩ := hcond
      simp only [Option.some.injEq, Prod.mk.injEq] at hb
      obtain ⟨rfl, rfl⟩ := hb
      obtain ⟨G1, i1, x1, hc1, hH1⟩ := i.pushTok
      have src1 : SrcV G1 (h ++ [.front 0 0]) w sz new Y a news := ⟨src.form, src.len, src.rlen, src.at_, fun i j row c h1 h2 => by
        obtain ⟨u, e1, e2, e3⟩ := src.rel i j row c h1 h2; exact ⟨u, e1, e2.mono x1.toMono, e3⟩⟩
      obtain ⟨V, w', G', k1, k2, k3, k4⟩ := fromNil (id := h.length) i1 (by simp) src1 hYf hm hbytes hsmall
      have hset : (h ++ [ABlk.front 0 0]).set h.length (.vec new.length sz new.flatten) = h ++ [.vec new.length sz new.flatten] := by simp
      rw [hset] at k2 k3 k4
      exact ⟨V, w', G', k1, k2, x1.trans k3, k4⟩
  · -- a slice that is written into
    rename_i id tot n sz' new hnew
    obtain ⟨a, news, src⟩ := arowsV_sound i hnew hy
    obtain ⟨capY, hYf⟩ := src.form
    split at hb
    · rename_i x0 hgv
      have hid := getVec_some hgv
      split at hb
      case isFalse => cases hb
      rename_i hcond
      obtain ⟨rfl, hx1, hbytes, hsmall⟩ := hcond
      obtain ⟨b, cap, rfl, hnf, htot, hlc, hv⟩ := hx.vslice_inv
      obtain ⟨b', cap', C, e0, g1, g2, g3, g4, g5, g6, g7, g8, g9⟩ := i.blk id _ hid
      obtain ⟨l0, cap0, k1, k2, k3, k4⟩ := hv (by rw [g1]; rfl)
      have hcur := g1
      rw [g1] at k1
      simp only [Value.slice.injEq, Option.some.injEq, Addr.mk.injEq] at k1
      obtain ⟨⟨rfl, _⟩, _, rfl⟩ := k1
      obtain ⟨szb, cs⟩ := x0
      simp only at hx1 hid g5 g6 g7 g9 hb
      subst hx1
      have hl0 : l0 = 0 := by
        rcases Nat.eq_zero_or_pos l0 with h0 | h0
        · exact h0
        · have := Nat.mul_pos h0 g6; omega
      subst hl0
      simp only [Nat.sub_zero] at k4
      subst k4
      rw [hYf]
      split at hb
      · rename_i hm
        simp only [Option.some.injEq, Prod.mk.injEq] at hb
        obtain ⟨rfl, rfl⟩ := hb
        refine ⟨_, w, G, ?_, i, Ext.refl G h w, hx⟩
        rw [hm]
        exact run_append_zero ht hti _ a n _ capY hlc
      · rename_i hm
        have hposn : 0 < news.length := by rw [src.len]; exact Nat.mul_pos (by omega) (by omega)
        obtain ⟨ad, had, _⟩ := src.at_ 0 _ (List.getElem?_eq_getElem hposn)
        subst had
        have hnews : ∀ j u, news[j]? = some u → w.cell? (ad.add j) = some u := fun j u hu => by
          obtain ⟨ad', e1, e2⟩ := src.at_ j u hu; cases e1; exact e2
        have hone := src.one
        have hnl : news.length = new.length * ti.size := by rw [hts]; exact src.len
        obtain ⟨f1, f2⟩ := src.flat
        have hnt : n ≤ tot := by omega
        have hns : n * szb ≤ tot * szb := Nat.mul_le_mul_right _ hnt
        have hts2 : tot * szb ≤ C.size := by rw [g5]; exact Nat.mul_le_mul_right _ g3
        have room : ∀ {m : Nat}, n + new.length ≤ cap → m = n + new.length →
            (Builtin.append_ #[t, t] ty #[.slice (some ⟨b', 0, none⟩) n cap, .slice (some ad) new.length capY]).run P w =
            .ok (.slice (some ⟨b', 0, none⟩) m cap) (w.setRow b' (C.toList.take (n * szb) ++ news ++ C.toList.drop (n * szb + news.length)).toArray) := by
          intro m hroom hm'
          subst hm'
          have hfit : n * ti.size + news.length ≤ C.size := by rw [hts, src.len, g5, ← Nat.add_mul]; exact Nat.mul_le_mul_right _ hroom
          have hf := run_firstCells_some (P := P) w ti.size new.length ad new.length capY news hnl hnews
          have hst := run_storeCells_at P b' (n * ti.size) e0 news 0 C w g2 (by simpa using hfit) hone
          simp only [Nat.add_zero] at hst
          rw [← hts]
          simp [Builtin.append_, run_underlying ht, Go.sizeOf, Go.typeInfo, hti, Builtin.lenOf, hroom, hf, Addr.add_lit, hst]
        split at hb
        · -- within what is there
          rename_i hin
          simp only [Option.some.injEq, Prod.mk.injEq] at hb
          obtain ⟨rfl, rfl⟩ := hb
          have hle : n * szb + new.flatten.length ≤ cs.length := by
            rw [f1, src.len, g7, ← Nat.add_mul]; exact Nat.mul_le_mul_right _ hin
          obtain ⟨w1, w2⟩ := i.writeV (off := n * szb) (vs := new.flatten) (U := news) hid hcur g2 hle f1.symm (fun j u hu => by
            obtain ⟨c1, u', c2, c3⟩ := f2 j u hu
            refine ⟨c1, ?_⟩
            rw [List.getD_eq_getElem?_getD, c2]; exact c3)
          refine ⟨_, _, G, room (by omega) rfl, w1, w2, vec_rel (cs := putCells cs (n * szb) new.flatten) ?_ hcur hin g3⟩
          simp [(List.getElem?_eq_some_iff.1 hid).1]
        · rename_i hin
          simp only [Option.some.injEq, Prod.mk.injEq] at hb
          obtain ⟨rfl, rfl⟩ := hb
          have htk : (cs.take (n * szb)).length = n * szb := by rw [List.length_take]; omega
          have hcl : (cs.take (n * szb) ++ new.flatten).length = (n + new.length) * szb := by
            rw [List.length_append, htk, f1, src.len, Nat.add_mul]
          -- the cells that are there, in any row that begins with them
          have cells : ∀ (C' : Array Value), (∀ k, k < n * szb → C'[k]? = C[k]?) → (∀ k u, news[k]? = some u → C'[n * szb + k]? = some u) →
              ∀ (j : Nat) (u : AVal), (cs.take (n * szb) ++ new.flatten)[j]? = some u → u.cellOk = true ∧ RelV G h u (C'.getD j undef) := by
            intro C' hC1 hC2 j u hu
            by_cases hj : j < n * szb
            · rw [List.getElem?_append_left (by omega), List.getElem?_take, if_pos hj] at hu
              have := g9 j u hu
              rw [Array.getD_eq_getD_getElem?] at this ⊢
              rw [hC1 j hj]; exact this
            · rw [List.getElem?_append_right (by omega), htk] at hu
              obtain ⟨c1, u', c2, c3⟩ := f2 _ u hu
              refine ⟨c1, ?_⟩
              have := hC2 _ _ c2
              rw [show n * szb + (j - n * szb) = j by omega] at this
              rw [Array.getD_eq_getD_getElem?, this]; exact c3
          by_cases hroom : n + new.length ≤ cap
          · have hfit : n * szb + news.length ≤ C.size := by rw [src.len, g5, ← Nat.add_mul]; exact Nat.mul_le_mul_right _ hroom
            obtain ⟨G', k5, k6, k7⟩ := i.toVec (id := id) (tot' := n + new.length) (sz := szb) (bb := b') (cap' := cap) (cs' := cs.take (n * szb) ++ new.flatten)
              (C' := (C.toList.take (n * szb) ++ news ++ C.toList.drop (n * szb + news.length)).toArray) (e' := e0)
              (w' := w.setRow b' (C.toList.take (n * szb) ++ news ++ C.toList.drop (n * szb + news.length)).toArray) hid (.inr ⟨tot, szb, cs, rfl, by omega⟩) (by simp) (by simp) (by simp) (by simp)
              (fun k hk hne => setRow_other w b' k _ (fun e => hne (by simp [ownerB, hcur, Value.ownBlock, e]))) (.inr (by simp [ownerB, hcur, Value.ownBlock])) (setRow_heap w b' C _ e0 _ g2) hroom g4
              (by simp; omega) g6 hcl (cells _ (fun k hk => by rw [getElem?_putRow C news _ k hfit, if_pos hk]) (fun k u hu => by
                have := (List.getElem?_eq_some_iff.1 hu).1
                rw [getElem?_putRow C news _ _ hfit, if_neg (by omega), if_pos (by omega), show n * szb + k - n * szb = k by omega]; exact hu))
            refine ⟨_, _, G', room hroom rfl, k5, k6, vec_rel (cs := cs.take (n * szb) ++ new.flatten) ?_ k7 (Nat.le_refl _) hroom⟩
            simp [(List.getElem?_eq_some_iff.1 hid).1]
          · have hxl : (C.toList.take (n * szb)).length = n * szb := by
              rw [List.length_take, Array.length_toList]; omega
            have hxc : ∀ j u, (C.toList.take (n * szb))[j]? = some u → w.cell? ((⟨b', 0, none⟩ : Addr).add j) = some u := by
              intro j u hu
              rw [List.getElem?_take] at hu
              split at hu
              · rw [add_plain, cell_of w _ _ g2, Nat.zero_add]; rwa [Array.getElem?_toList] at hu
              · cases hu
            have hrun := run_append_grow (P := P) w t ty e ti Z ht hti hzz ⟨b', 0, none⟩ n cap (C.toList.take (n * szb)) (by rw [hts]; exact hxl) hxc ad new.length capY news hnl hnews (by omega) (by omega)
              (growslice_fits (by omega) (by rw [htb]; exact hbytes))
            have hcapg := grownCap_ge w (n + new.length) cap e
            have hcapm := grownCap_le_maxLen w (n + new.length) cap e (by simp only [maxLen]; omega)
            obtain ⟨G', k5, k6, k7⟩ := i.toVec (id := id) (tot' := n + new.length) (sz := szb) (bb := w.heap.size) (cap' := grownCap w (n + new.length) cap e) (cs' := cs.take (n * szb) ++ new.flatten)
              (w' := w.drew.alloc (.cells ((C.toList.take (n * szb)).toArray ++ news.toArray ++ Builtin.zeroCells Z.cells (grownCap w (n + new.length) cap e - (n + new.length))) e)) hid
              (.inr ⟨tot, szb, cs, rfl, by omega⟩) rfl rfl rfl (by simp)
              (fun k hk _ => heap_alloc_lt w.drew _ k hk) (.inl (Nat.le_refl _)) (heap_alloc_new w.drew _) (by omega) hcapm
              (by simp only [Array.size_append, List.size_toArray, size_zeroCells, hZs, src.len, hxl, ← Nat.add_mul]; congr 1; omega)
              g6 hcl (cells _ (fun k hk => by
                rw [Array.getElem?_append_left (by simp [hxl, src.len]; omega), List.append_toArray, List.getElem?_toArray, List.getElem?_append_left (by omega), List.getElem?_take, if_pos hk, Array.getElem?_toList]) (fun k u hu => by
                have hk := (List.getElem?_eq_some_iff.1 hu).1
                rw [Array.getElem?_append_left (by simp only [List.append_toArray, List.size_toArray, List.length_append, hxl]; omega), List.append_toArray, List.getElem?_toArray, List.getElem?_append_right (by omega), hxl, show n * szb + k - n * szb = k by omega]; exact hu))
            refine ⟨_, _, G', hrun, k5, k6, vec_rel (cs := cs.take (n * szb) ++ new.flatten) ?_ k7 (Nat.le_refl _) hcapg⟩
            simp [(List.getElem?_eq_some_iff.1 hid).1]
    · cases hb
  · cases hb

/-- A slice that is written into no more. -/
theorem afreeze_sound {r : AVal} {h' : Heap} (i : Inv G h w) (hb : afreeze h x = some (r, h')) (hx : RelV G h x X) : ∃ G', Inv G' h' w ∧ Ext G h w G' h' w ∧ RelV G' h' r X := by
  unfold afreeze at hb
  split at hb
  · rename_i id tot off len sz
    split at hb
    · rename_i x0 hgv
      have hid := getVec_some hgv
      split at hb
      · rename_i row hrow
        split at hb
        case isFalse => cases hb
        rename_i hle
        simp only [Option.some.injEq, Prod.mk.injEq] at hb
        obtain ⟨rfl, rfl⟩ := hb
        obtain ⟨b, cap, rfl, hnf, htot, hlc, hv⟩ := hx.vslice_inv
        obtain ⟨b', cap', C, e0, g1, g2, g3, g4, g5, g6, g7, g8, g9⟩ := i.blk id _ hid
        obtain ⟨l0, cap0, k1, k2, k3, k4⟩ := hv (by rw [g1]; rfl)
        have hcur := g1
        rw [g1] at k1
        simp only [Value.slice.injEq, Option.some.injEq, Addr.mk.injEq] at k1
        obtain ⟨⟨rfl, _⟩, _, rfl⟩ := k1
        let G' : Gh := { G with H := fun b k => if b = b' then C[k]? else G.H b k }
        have hH : ∀ b k, G'.H b k = if b = b' then C[k]? else G.H b k := fun _ _ => rfl
        have hmono : ∀ b k v, G.H b k = some v → G'.H b k = some v := by
          intro b k v hvv
          rw [hH]
          by_cases hbe : b = b'
          · subst hbe; rw [g8] at hvv; cases hvv
          · rw [if_neg hbe]; exact hvv
        have key := i.step (G' := G') (w' := w) id (.vec tot x0.1 x0.2) .gone hid rfl rfl rfl (Nat.le_refl _) (fun _ _ _ => rfl) (fun _ _ => rfl) (fun _ _ => rfl) hmono
          (fun b k _ hne => by
            rw [hH, if_neg]
            rintro rfl
            exact hne (by simp [ownerB, hcur, Value.ownBlock]))
          (fun b k v hbb hvv => by
            rw [hH] at hvv
            split at hvv
            · rename_i he; subst he; rw [cell_of w _ _ g2]; exact hvv
            · exact i.ok b k v hvv)
          ⟨rfl, Nat.le_refl _, fun _ => rfl⟩ (fun _ => trivial) (fun b hb => by cases hb)
        refine ⟨G', key.1, key.2, .p _ _ ?_⟩
        obtain ⟨p1, p2⟩ := pureRow_spec hrow
        have hdl : ((x0.2.drop off).take (len * sz)).length = len * sz := by rw [List.length_take, List.length_drop]; omega
        rw [hdl] at p1
        refine relP_rows (F := fun j => C.getD (off + j) undef) (by omega) hlc fun j v hvv _ => ?_
        have hj : j < len * sz := by rw [← p1]; exact (List.getElem?_eq_some_iff.1 hvv).1
        obtain ⟨c', e1, e2⟩ := p2 j _ (List.getElem?_eq_getElem (by omega))
        rw [hvv] at e1; cases e1
        have hcs : x0.2[off + j]? = some (((x0.2.drop off).take (len * sz))[j]'(by omega)) := by
          have := List.getElem?_eq_getElem (l := (x0.2.drop off).take (len * sz)) (i := j) (by omega)
          rw [List.getElem?_take, if_pos hj, List.getElem?_drop] at this
          exact this
        obtain ⟨_, hrel⟩ := g9 _ _ hcs
        obtain ⟨z1, z2⟩ := pure1_rel e2 hrel
        have hlt : off + j < C.size := by
          have := (List.getElem?_eq_some_iff.1 hcs).1
          have h2 : x0.2.length ≤ C.size := by rw [g7, g5]; exact Nat.mul_le_mul_right _ g3
          omega
        refine ⟨?_, z1.mono hmono, z2⟩
        rw [hH, if_pos rfl, Array.getElem?_eq_getElem hlt]
        simp [Array.getD_eq_getD_getElem?, hlt]
      · cases hb
    · cases hb
  · simp only [Option.some.injEq, Prod.mk.injEq] at hb
    obtain ⟨rfl, rfl⟩ := hb
    exact ⟨G, i, Ext.refl G h w, hx⟩

theorem afreezeC_sound : ∀ {cs r : List AVal} {Cs : List Value} {G : Gh} {h h' : Heap}, Inv G h w → afreezeC h cs = some (r, h') → cs.length = Cs.length → (∀ (j : Nat) (v : AVal) (V : Value), cs[j]? = some v → Cs[j]? = some V → RelV G h v V) →
    ∃ G', Inv G' h' w ∧ Ext G h w G' h' w ∧ r.length = cs.length ∧ ∀ (j : Nat) (v : AVal) (V : Value), r[j]? = some v → Cs[j]? = some V → RelV G' h' v V
  | [], _, _, G, h, _, i, hb, _, _ => by
    simp only [afreezeC, Option.some.injEq, Prod.mk.injEq] at hb
    obtain ⟨rfl, rfl⟩ := hb
    exact ⟨G, i, Ext.refl G h w, rfl, fun j v V hv => by simp at hv⟩
  | c :: cs, _, [], _, _, _, _, _, hl, _ => by simp at hl
  | c :: cs, _, C :: Cs, G, h, _, i, hb, hl, hr => by
    simp only [afreezeC] at hb
    obtain ⟨⟨y, h1⟩, hy, hb⟩ := Option.bind_eq_some_iff.1 hb
    obtain ⟨⟨z, h2⟩, hz, hb⟩ := Option.bind_eq_some_iff.1 hb
    simp only [Option.some.injEq, Prod.mk.injEq] at hb
    obtain ⟨rfl, rfl⟩ := hb
    obtain ⟨G1, i1, x1, r1⟩ := afreeze_sound i hy (hr 0 c C rfl rfl)
    obtain ⟨G2, i2, x2, hl2, r2⟩ := afreezeC_sound (cs := cs) (Cs := Cs) i1 hz (by simpa using hl) (fun j v V hv hV => (hr (j + 1) v V hv hV).mono x1.toMono)
    refine ⟨G2, i2, x1.trans x2, by simp [hl2], fun j v V hv hV => ?_⟩
    cases j with
    | zero =>
      simp only [List.getElem?_cons_zero, Option.some.injEq] at hv hV
      subst hv hV
      exact r1.mono x2.toMono
    | succ j => exact r2 j v V hv hV
/-- A struct's cells that are written into no more. -/
theorem afreezeA_sound {r : AVal} {h' : Heap} (i : Inv G h w) (hb : afreezeA h x = some (r, h')) (hx : RelV G h x X) : ∃ G', Inv G' h' w ∧ Ext G h w G' h' w ∧ RelV G' h' r X := by
  unfold afreezeA at hb
  split at hb
  · rename_i cs
    obtain ⟨⟨z, h1⟩, hz, hb⟩ := Option.bind_eq_some_iff.1 hb
    simp only [Option.some.injEq, Prod.mk.injEq] at hb
    obtain ⟨rfl, rfl⟩ := hb
    obtain ⟨C, rfl, hl, hr⟩ := hx.agg_inv
    have get : ∀ (j : Nat) (V : Value), C.toList[j]? = some V → C.getD j undef = V := by
      intro j V hV
      rw [Array.getElem?_toList] at hV
      rw [Array.getD_eq_getD_getElem?, hV]; rfl
    obtain ⟨G', i', x', hl', hr'⟩ := afreezeC_sound (Cs := C.toList) i hz (by simpa using hl) (fun j v V hv hV => by
      have := hr j v hv
      rw [get j V hV] at this
      exact this)
    refine ⟨G', i', x', .agg _ _ (by rw [hl', hl]) fun j v hv => ?_⟩
    have hj : j < C.toList.length := by
      have := (List.getElem?_eq_some_iff.1 hv).1
      simp only [Array.length_toList]
      omega
    have hV := List.getElem?_eq_getElem hj
    rw [get j _ hV]
    exact hr' j v _ hv hV
  · simp only [Option.some.injEq, Prod.mk.injEq] at hb
    obtain ⟨rfl, rfl⟩ := hb
    exact ⟨G, i, Ext.refl G h w, hx⟩

/-- A slice of literals that is written into. -/
theorem abuildSliceV_sound {t e : TypeId} {len sz : Nat} {z r : AVal} {h' : Heap} {parts : Array (Nat × Operand)} {f : Operand → AVal} {F : Operand → Value}
    (i : Inv G h w) (ht : P.underlying t = some (.slice e)) (hz : zeroT P e = some z) (hn : sizeT P e = some sz) (hsz : sz ≠ 0) (hle : len * sz ≤ 16777216) (hf : ∀ o, RelV G h (f o) (F o)) (hzj : z.isJunk = false)
    (hb : abuildSliceV len sz z.cells (parts.toList.map fun p => (p.1, f p.2)) h = some (r, h')) :
    ∃ V w' G', (Instr.buildSlice t len (parts.map fun (i, x) => (i, F x))).run P w = .ok V w' ∧ Inv G' h' w' ∧ Ext G h w G' h' w' ∧ RelV G' h' r V := by
  unfold abuildSliceV at hb
  split at hb
  · rename_i rows hrows
    simp only [Option.some.injEq, Prod.mk.injEq] at hb
    obtain ⟨rfl, rfl⟩ := hb
    obtain ⟨cs, row, C, h1, rfl, h3, h4, h5, h6⟩ := buildRow_sound (G := G) (h := h) (w := w) ht hz hn hsz hle hf hzj hrows
    obtain ⟨G1, i1, x1, hc1, hH1⟩ := i.pushTok
    obtain ⟨p1, p2⟩ := pureRow_spec h1
    have hcl : cs.length = len * sz := by rw [h3.1, h4]
    obtain ⟨q1, q2, q3⟩ := rowsOf_spec len sz row (by omega)
    obtain ⟨f1, f2⟩ := flatten_rows _ q2
    obtain ⟨G', g1, g2, g3⟩ := i1.toVec (id := h.length) (tot' := len) (sz := sz) (bb := w.heap.size) (cap' := len) (cs' := (rowsOf len sz row).flatten) (C' := C) (e' := e) (w' := w.alloc (.cells C e)) (by simp) (.inl rfl) rfl rfl rfl (by simp)
      (fun k hk _ => heap_alloc_lt w _ k hk) (.inl (Nat.le_refl _)) (heap_alloc_new w _) (Nat.le_refl _) h5 h4 (by omega) (by rw [f1, q1]) (fun k u hu => by
        obtain ⟨i', j, r, a1, a2, rfl⟩ := f2 k u hu
        have hr := q3 i' j r u a1 a2
        have hlt : i' * sz + j < cs.length := by rw [← p1]; exact (List.getElem?_eq_some_iff.1 hr).1
        obtain ⟨c', e1, e2⟩ := p2 _ _ (List.getElem?_eq_getElem hlt)
        rw [hr] at e1; cases e1
        obtain ⟨z1, z2⟩ := pure1_rel e2 (h3.2 _ _ (List.getElem?_eq_getElem hlt))
        refine ⟨z2, .p _ _ ?_⟩
        rw [hH1]; exact z1)
    have hset : (h ++ [ABlk.front 0 0]).set h.length (.vec len sz (rowsOf len sz row).flatten) = h ++ [.vec len sz (rowsOf len sz row).flatten] := by simp
    rw [hset] at g1 g2
    exact ⟨_, _, G', h6, g1, x1.trans g2, vec_rel (cs := (rowsOf len sz row).flatten) (by simp) g3 (Nat.le_refl _) (Nat.le_refl _)⟩
  · unfold abuildSliceU at hb
    split at hb
    · rename_i cs hbd
      split at hb
      case isFalse => cases hb
      rename_i hcond
      obtain ⟨hzl, hall⟩ := hcond
      simp only [Option.some.injEq, Prod.mk.injEq] at hb
      obtain ⟨rfl, rfl⟩ := hb
      obtain ⟨C, h3, h4, h5, h6⟩ := buildCells_sound (G := G) (h := h) (w := w) ht hz hn hsz hle hf hzj hzl hbd
      obtain ⟨G1, i1, x1, hc1, hH1⟩ := i.pushTok
      have hcl : cs.length = len * sz := by rw [h3.1, h4]
      obtain ⟨G', g1, g2, g3⟩ := i1.toVec (id := h.length) (tot' := len) (sz := sz) (bb := w.heap.size) (cap' := len) (cs' := cs) (C' := C) (e' := e) (w' := w.alloc (.cells C e)) (by simp) (.inl rfl) rfl rfl rfl (by simp)
        (fun k hk _ => heap_alloc_lt w _ k hk) (.inl (Nat.le_refl _)) (heap_alloc_new w _) (Nat.le_refl _) h5 h4 (by omega) hcl (fun k u hu =>
          ⟨List.all_eq_true.1 hall u (List.mem_of_getElem? hu), (h3.2 k u hu).mono x1.toMono⟩)
      have hset : (h ++ [ABlk.front 0 0]).set h.length (.vec len sz cs) = h ++ [.vec len sz cs] := by simp
      rw [hset] at g1 g2
      exact ⟨_, _, G', h6, g1, x1.trans g2, vec_rel (cs := cs) (by simp) g3 (Nat.le_refl _) (Nat.le_refl _)⟩
    · cases hb

/-- copy: a string's bytes. -/
theorem acopyS_sound {t t2 e ty : TypeId} {r : AVal} {h' : Heap} (i : Inv G h w) (ht : P.underlying t = some (.slice e)) (hn : sizeT P e = some 1)
    (hb : acopyS h x y = some (r, h')) (hx : RelV G h x X) (hy : RelV G h y Y) :
    ∃ V w' G', (Builtin.copy_ #[t, t2] ty #[X, Y]).run P w = .ok V w' ∧ Inv G' h' w' ∧ Ext G h w G' h' w' ∧ RelV G' h' r V := by
  obtain ⟨ti, hti, hts⟩ : ∃ ti, P.info? e = some ti ∧ ti.size = 1 := by
    unfold sizeT at hn
    cases hi : P.info? e with
    | none => simp [hi] at hn
    | some ti => simp [hi] at hn; exact ⟨ti, rfl, hn⟩
  unfold acopyS at hb
  split at hb
  · rename_i id tot off len bs
    split at hb
    · rename_i x0 hgv
      have hid := getVec_some hgv
      split at hb
      case isFalse => cases hb
      rename_i hcond
      obtain ⟨hle, hx1⟩ := hcond
      simp only [Option.some.injEq, Prod.mk.injEq] at hb
      obtain ⟨rfl, rfl⟩ := hb
      have hY := hy.str_inv
      subst hY
      obtain ⟨b, cap, rfl, hnf, htot, hlc, hv⟩ := hx.vslice_inv
      obtain ⟨b', cap', C, e0, g1, g2, g3, g4, g5, g6, g7, g8, g9⟩ := i.blk id _ hid
      obtain ⟨l0, cap0, k1, k2, k3, k4⟩ := hv (by rw [g1]; rfl)
      have hcur := g1
      rw [g1] at k1
      simp only [Value.slice.injEq, Option.some.injEq, Addr.mk.injEq] at k1
      obtain ⟨⟨rfl, _⟩, _, rfl⟩ := k1
      obtain ⟨szb, cs⟩ := x0
      simp only at hx1 hid g5 g6 g7 g9 hle
      subst hx1
      have hU : ((bs.take len).map fun b => Value.int .u8 b.toNat).length = ((bs.take len).map fun b => AVal.int .u8 b.toNat).length := by simp
      have hfit : off + ((bs.take len).map fun b => AVal.int .u8 b.toNat).length ≤ cs.length := by
        rw [List.length_map, List.length_take]; omega
      obtain ⟨w1, w2⟩ := i.writeV (off := off) (vs := (bs.take len).map fun b => AVal.int .u8 b.toNat) (U := (bs.take len).map fun b => Value.int .u8 b.toNat) hid hcur g2 hfit hU (fun j u hu => by
        rw [List.getElem?_map, Option.map_eq_some_iff] at hu
        obtain ⟨c, hc, rfl⟩ := hu
        refine ⟨rfl, ?_⟩
        rw [List.getD_eq_getElem?_getD, List.getElem?_map, hc]
        exact .p _ _ (.int _ _))
      have hCl : cs.length ≤ C.size := by rw [g7, g5]; exact Nat.mul_le_mul_right _ g3
      have hone : ∀ u ∈ ((bs.take len).map fun b => Value.int .u8 b.toNat), u.oneCell' = true := by
        intro u hu
        obtain ⟨c, _, rfl⟩ := List.mem_map.1 hu
        rfl
      have hst := run_storeCells_at P b' off e0 ((bs.take len).map fun b => Value.int .u8 b.toNat) 0 C w g2 (by simp only [Nat.add_zero, List.length_map, List.length_take] at hfit ⊢; omega) hone
      simp only [Nat.add_zero] at hst
      refine ⟨.int .i64 (min bs.length len : Nat), _, G, ?_, w1, w2, .p _ _ (.int _ _)⟩
      have hsz : (⟨bs.toArray⟩ : ByteArray).size = bs.length := by simp [ByteArray.size]
      have e5 : List.take (min len bs.length) (List.map (fun b => Value.int .u8 b.toNat) bs) = List.take len (List.map (fun b => Value.int .u8 b.toNat) bs) := by
        rw [List.take_eq_take_iff]
        simp only [List.length_map]
        omega
      rw [List.map_take] at hst
      have e6 : bs.length.min len = min len bs.length := Nat.min_comm _ _
      simp [Builtin.copy_, run_underlying ht, Go.sizeOf, Go.typeInfo, hti, hts, Builtin.lenOf, hsz, Builtin.firstCells, Sem.run_pure, e6, e5, hst, goInt, Nat.min_comm bs.length len]
    · cases hb
  · cases hb

/-- make, of a slice that is written into. -/
theorem amakeSliceV_sound {t e : TypeId} {sz by_ : Nat} {z r : AVal} {h' : Heap} (i : Inv G h w) (ht : P.underlying t = some (.slice e)) (hn : sizeT P e = some sz) (hby : bytesT P e = some by_) (hz : zeroT P e = some z)
    (h0 : sz ≠ 0) (hj : z.isJunk = false) (hl : z.cells.length = sz) (hk : z.cells.all AVal.cellOk = true) (hb : amakeSliceV sz by_ z.cells x h = some (r, h')) {k k' : IntKind} {n : Int} (hxn : x = .int k n) (hX : X = .int k n) (hY : Y = .int k' n) :
    ∃ V w' G', (Instr.makeSlice t X Y).run P w = .ok V w' ∧ Inv G' h' w' ∧ Ext G h w G' h' w' ∧ RelV G' h' r V := by
  subst hxn; subst hX; subst hY
  simp only [amakeSliceV] at hb
  split at hb
  case isFalse => cases hb
  rename_i hcond
  obtain ⟨hn0, hbytes, hmax⟩ := hcond
  simp only [Option.some.injEq, Prod.mk.injEq] at hb
  obtain ⟨rfl, rfl⟩ := hb
  obtain ⟨m, rfl⟩ := Int.eq_ofNat_of_zero_le hn0
  simp only [Int.toNat_natCast] at *
  unfold sizeT at hn; unfold bytesT at hby; unfold zeroT at hz
  cases hi : P.info? e with
  | none => simp [hi] at hn
  | some ti =>
    simp only [hi, Option.map_some, Option.some.injEq, Option.bind_some, Option.map_eq_some_iff] at hn hby hz
    obtain ⟨Z, hZ, hz⟩ := hz
    have hrun := run_make (P := P) w t e ti Z ht hi hZ k k' m m hn0 (Int.le_refl _) (by
      rw [hby]
      have : ((m * by_ : Nat) : Int) ≤ 140737488355328 := by omega
      rw [Int.natCast_mul] at this
      rw [Int.mul_comm]; omega) (by omega)
    obtain ⟨G1, i1, x1, hc1, hH1⟩ := i.pushTok
    have hrz : RelV G1 (h ++ [.front 0 0]) z Z := by rw [← hz]; exact relV_ofConst G1 _ Z
    have hcz := cells_rel hj hrz
    have hrc := relC_replicate (G := G1) (h := h ++ [ABlk.front 0 0]) hcz m
    have hmade : madeCells Z.cells ((m : Int).toNat * ti.size) = (Array.range (m * Z.cells.size)).map fun j => Z.cells[j % Z.cells.size]! := by
      rw [hn, ← hl, hcz.1]; simp [madeCells]
    rw [hmade] at hrun
    have hfl : (List.replicate m z.cells).flatten.length = m * sz := by simp [hl]
    obtain ⟨G', g1, g2, g3⟩ := i1.toVec (id := h.length) (tot' := m) (sz := sz) (bb := w.heap.size) (cap' := m) (cs' := (List.replicate m z.cells).flatten) (C' := (Array.range (m * Z.cells.size)).map fun j => Z.cells[j % Z.cells.size]!) (e' := e)
      (w' := w.alloc (.cells ((Array.range (m * Z.cells.size)).map fun j => Z.cells[j % Z.cells.size]!) e)) (by simp) (.inl rfl) rfl rfl rfl (by simp)
      (fun k hk _ => heap_alloc_lt w _ k hk) (.inl (Nat.le_refl _)) (heap_alloc_new w _) (Nat.le_refl _) (by simp only [maxLen]; omega) (by simp [← hcz.1, hl]) (by omega) hfl (fun k u hu => by
        refine ⟨?_, hrc.2 k u hu⟩
        obtain ⟨l, hl1, hl2⟩ := List.mem_flatten.1 (List.mem_of_getElem? hu)
        rw [(List.mem_replicate.1 hl1).2] at hl2
        exact List.all_eq_true.1 hk u hl2)
    have hset : (h ++ [ABlk.front 0 0]).set h.length (.vec m sz (List.replicate m z.cells).flatten) = h ++ [.vec m sz (List.replicate m z.cells).flatten] := by simp
    rw [hset] at g1 g2
    exact ⟨_, _, G', by simpa using hrun, g1, x1.trans g2, vec_rel (cs := (List.replicate m z.cells).flatten) (by simp) g3 (Nat.le_refl _) (Nat.le_refl _)⟩

/-- clear: a slice. -/
theorem aclear_sound {t e ty : TypeId} {sz : Nat} {z : AVal} {h' : Heap} {ts : Array TypeId} (i : Inv G h w) (ht : P.underlying t = some (.slice e)) (hz : zeroT P e = some z) (hzj : z.isJunk = false)
    (hb : aclear sz z.cells h x = some h') (hx : RelV G h x X) (hts : ts[0]? = some t) : ∃ w', (Builtin.clear_ ts ty #[X]).run P w = .ok (.tuple #[]) w' ∧ Inv G h' w' ∧ Ext G h w G h' w' := by
  unfold aclear at hb
  split at hb
  · rename_i tok
    cases hb
    obtain ⟨a, cap, hX⟩ : ∃ a cap, X = .slice a 0 cap := by
      have := hx.slice_inv
      cases this with
      | slice0 a cap => exact ⟨a, cap, rfl⟩
      | slice rows b off cap sz V _ _ _ _ _ => exact ⟨_, cap, rfl⟩
    subst hX
    refine ⟨w, ?_, i, Ext.refl G _ w⟩
    cases a <;> simp [Builtin.clear_, hts, run_underlying ht, Sem.run_pure]
  · rename_i id tot off len sz'
    split at hb
    · rename_i h0
      cases hb
      subst h0
      obtain ⟨b, cap, rfl, _⟩ := hx.vslice_inv
      refine ⟨w, ?_, i, Ext.refl G _ w⟩
      simp [Builtin.clear_, hts, run_underlying ht, Sem.run_pure]
    rename_i h0
    split at hb
    · rename_i x0 hgv
      have hid := getVec_some hgv
      split at hb
      case isFalse => cases hb
      rename_i hcond
      obtain ⟨rfl, hzl, hzk, hle⟩ := hcond
      cases hb
      obtain ⟨b, cap, rfl, hnf, htot, hlc, hv⟩ := hx.vslice_inv
      obtain ⟨b', cap', C, e0, g1, g2, g3, g4, g5, g6, g7, g8, g9⟩ := i.blk id _ hid
      obtain ⟨l0, cap0, k1, k2, k3, k4⟩ := hv (by rw [g1]; rfl)
      have hcur := g1
      rw [g1] at k1
      simp only [Value.slice.injEq, Option.some.injEq, Addr.mk.injEq] at k1
      obtain ⟨⟨rfl, _⟩, _, rfl⟩ := k1
      obtain ⟨Z, hz1, hz2⟩ := run_zeroValue' (P := P) (G := G) (h := h) (w := w) hz
      have hcz := cells_rel hzj hz2
      have hrc := relC_replicate (G := G) (h := h) hcz len
      have hcl : x0.2.length ≤ C.size := by rw [g7, g5]; exact Nat.mul_le_mul_right _ g3
      have hfl : (List.replicate len z.cells).flatten.length = len * sz' := by simp [hzl]
      have hall : ∀ u ∈ (List.replicate len z.cells).flatten, u.cellOk = true := fun u hu => by
        obtain ⟨l, hl1, hl2⟩ := List.mem_flatten.1 hu
        rw [(List.mem_replicate.1 hl1).2] at hl2
        exact List.all_eq_true.1 hzk u hl2
      have hrel : ∀ (j : Nat) (u : AVal), (List.replicate len z.cells).flatten[j]? = some u → u.cellOk = true ∧ RelV G h u ((Builtin.zeroCells Z.cells len).toList.getD j undef) := fun j u hu => by
        refine ⟨hall u (List.mem_of_getElem? hu), ?_⟩
        have := hrc.2 j u hu
        rw [List.getD_eq_getElem?_getD, Array.getElem?_toList]
        rw [Array.getD_eq_getD_getElem?] at this
        exact this
      have hzs : (Builtin.zeroCells Z.cells len).toList.length = (List.replicate len z.cells).flatten.length := by
        rw [Array.length_toList]; exact hrc.1.symm
      have h1c : ∀ u ∈ (Builtin.zeroCells Z.cells len).toList, u.oneCell' = true := by
        intro u hu
        obtain ⟨j, hj⟩ := List.getElem?_of_mem hu
        have hjl : j < (List.replicate len z.cells).flatten.length := by rw [← hzs]; exact (List.getElem?_eq_some_iff.1 hj).1
        obtain ⟨a1, a2⟩ := hrel j _ (List.getElem?_eq_getElem hjl)
        rw [List.getD_eq_getElem?_getD, hj] at a2
        exact (a2.oneCell a1).1
      have hst := run_storeCells_at P b' off e0 (Builtin.zeroCells Z.cells len).toList 0 C w g2 (by rw [hzs, hfl]; omega) h1c
      simp only [Nat.add_zero] at hst
      have hw := i.writeV (off := off) (vs := (List.replicate len z.cells).flatten) (U := (Builtin.zeroCells Z.cells len).toList) hid hcur g2 (by rw [hfl]; omega) hzs hrel
      refine ⟨_, ?_, hw⟩
      cases len with
      | zero => exact absurd rfl h0
      | succ n => simp [Builtin.clear_, hts, run_underlying ht, hz1, hst, Sem.run_pure]
    · cases hb
  · cases hb

/-- clear: a map. -/
theorem aclearMap_sound {t kt e ty : TypeId} {h' : Heap} {ts : Array TypeId} (i : Inv G h w) (ht : P.underlying t = some (.map kt e))
    (hb : aclearMap h x = some h') (hx : RelV G h x X) (hts : ts[0]? = some t) : ∃ w', (Builtin.clear_ ts ty #[X]).run P w = .ok (.tuple #[]) w' ∧ Inv G h' w' ∧ Ext G h w G h' w' := by
  unfold aclearMap at hb
  split at hb
  · cases hb
    have hX := hx.nilmap_inv
    subst hX
    exact ⟨w, by simp [Builtin.clear_, hts, run_underlying ht, Sem.run_pure], i, Ext.refl G _ w⟩
  · rename_i id
    split at hb
    · rename_i es hid
      cases hb
      obtain ⟨hX, _⟩ := hx.map_inv
      subst hX
      obtain ⟨E, clock, g1, g2, g3, g4, g5⟩ := i.blk id _ hid
      obtain ⟨s1, s2⟩ := i.mapStep (es' := []) (E' := #[]) (clock' := clock) hid g1 g3 rfl (by simp) (MapKept.stamped_empty clock)
      refine ⟨_, ?_, s1, s2⟩
      simp [Builtin.clear_, hts, run_underlying ht, MapKept.run_getObj_map g1, MapKept.run_setObj_map _ g1, Sem.run_pure]
    · cases hb
  · cases hb
end
end
section
open Go Go.RowKit
section
variable {P : Program} {G : Gh} {h : Heap} {w : World} {x y v : AVal} {X Y V : Value}
theorem getT_some {h : Heap} {id : Nat} {x : Nat × List AVal} (hg : getT h id = some x) : h[id]? = some (.tcells x.1 x.2) := by
  unfold getT at hg
  split at hg <;> simp_all
  subst hg; exact ⟨rfl, rfl⟩
/-- A new block of cells (and the tokens of its nil slices). -/
theorem Inv.newT (i : Inv G h w) {n : Nat} {v p : AVal} {h' : Heap} {Z : Value} (t : TypeId) (hb : anewT t n h v = some (p, h')) (hr : RelV G h v Z) :
    ∃ G', Inv G' h' (w.alloc (.cells Z.cells t)) ∧ Ext G h w G' h' (w.alloc (.cells Z.cells t)) ∧ RelV G' h' p (.pointer (some ⟨w.heap.size, 0, none⟩)) ∧ Z.cells.size = n := by
  unfold anewT at hb
  simp only [] at hb
  split at hb
  case isFalse => cases hb
  rename_i hcond
  obtain ⟨hlen, hall⟩ := hcond
  simp only [Option.some.injEq, Prod.mk.injEq] at hb
  obtain ⟨rfl, rfl⟩ := hb
  obtain ⟨c1, c2⟩ := agg_cells hr hall
  obtain ⟨t1, t2, t3⟩ := tokCells_spec v.cells (h.length + 1)
  have hsz : Z.cells.size = n := by omega
  refine ⟨G.add h.length w.heap.size, ?_⟩
  have key := i.push (G' := G.add h.length w.heap.size) (ext := .tcells t (tokCells (h.length + 1) v.cells).1 :: (tokCells (h.length + 1) v.cells).2) (w' := w.alloc (.cells Z.cells t))
    rfl rfl rfl (by simp) (fun k hk => heap_alloc_lt w _ k hk) (fun id hid => by simp [Gh.add]; omega) (fun id hid => by simp [Gh.add]; omega) (fun _ _ _ hh => hh) (fun _ _ _ => rfl)
    (fun b k v hb hv => by have := i.H_lt (b := b) (k := k) (v := v) hv; omega)
    (fun j bl hj m => by
      cases j with
      | zero =>
        simp at hj; subst hj
        refine ⟨Z.cells, by simp only [Gh.add, Nat.add_zero, if_true]; exact heap_alloc_new w _, by omega, fun k => by simp only [Gh.add, Nat.add_zero, if_true]; exact i.H_none (Nat.le_refl _), fun j u hu => ?_⟩
        rcases t3 j u hu with h4 | ⟨h4, id, h5, h6, h7⟩
        · exact ⟨(c2 j u h4).1, (c2 j u h4).2.mono m⟩
        · subst h6
          obtain ⟨_, hz⟩ := c2 j _ h4
          have hz := hz.nil_inv
          refine ⟨rfl, ?_⟩
          rw [hz]
          refine .own (t := 0) [] id 0 0 _ (.slice0 none 0) ?_ (Nat.le_refl _) (by simp) (fun _ => by simp only [Gh.add]; rw [if_pos (by omega)])
          rw [List.getElem?_append_right (by omega), show id - h.length = (id - (h.length + 1)) + 1 by omega]
          simpa using h7
      | succ j =>
        have hj' := t2 j bl (by simpa using hj)
        subst hj'
        exact .inl ⟨rfl, by simp only [Gh.add]; rw [if_pos (by omega)]⟩)
    (fun j bl b hj ho => by
      cases j with
      | zero => simp at hj; subst hj; simp only [ownerB, Gh.add, Nat.add_zero, if_true, Option.some.injEq] at ho; omega
      | succ j =>
        have hj' := t2 j bl (by simpa using hj)
        subst hj'
        simp only [ownerB, Gh.add] at ho
        rw [if_pos (by omega)] at ho
        cases ho)
    (fun j j' bl bl' b hj hj' ho ho' => by
      have : ∀ j bl, (ABlk.tcells t (tokCells (h.length + 1) v.cells).1 :: (tokCells (h.length + 1) v.cells).2)[j]? = some bl → ownerB (G.add h.length w.heap.size) (h.length + j) bl = some b → j = 0 := by
        intro j bl hj ho
        cases j with
        | zero => rfl
        | succ j =>
          have hj' := t2 j bl (by simpa using hj)
          subst hj'
          simp only [ownerB, Gh.add] at ho
          rw [if_pos (by omega)] at ho
          cases ho
      rw [this j bl hj ho, this j' bl' hj' ho'])
  refine ⟨key.1, key.2, ?_, hsz⟩
  have hp := RelV.ptr (G := G.add h.length w.heap.size) (h := h ++ .tcells t (tokCells (h.length + 1) v.cells).1 :: (tokCells (h.length + 1) v.cells).2) h.length 0
    ⟨.tcells t (tokCells (h.length + 1) v.cells).1, by simp, by simp⟩
  simpa [Gh.add] using hp

/-- A block's cells written from a place on. -/
theorem Inv.writeT (i : Inv G h w) {id off : Nat} {cs vs : List AVal} {C : Array Value} {e : TypeId} {U : List Value} (hid : h[id]? = some (.tcells e cs))
    (hC : w.heap[G.blk id]? = some (.cells C e (0, 0))) (hle : off + vs.length ≤ cs.length) (hU : U.length = vs.length)
    (hrel : ∀ (j : Nat) (u : AVal), vs[j]? = some u → u.cellOk = true ∧ RelV G h u (U.getD j undef)) :
    Inv G (h.set id (.tcells e (putCells cs off vs))) (w.setRow (G.blk id) (C.toList.take off ++ U ++ C.toList.drop (off + U.length)).toArray) ∧
      Ext G h w G (h.set id (.tcells e (putCells cs off vs))) (w.setRow (G.blk id) (C.toList.take off ++ U ++ C.toList.drop (off + U.length)).toArray) := by
  obtain ⟨C', h1, h2, h3, h4⟩ := i.blk id _ hid
  rw [hC] at h1
  simp only [Option.some.injEq, Obj.cells.injEq, true_and] at h1
  obtain ⟨rfl, _⟩ := h1
  refine i.step id (.tcells e cs) _ hid (by simp) (by simp) (by simp) (by simp) ?_ (fun _ _ => rfl) (fun _ _ => rfl) (fun _ _ _ hh => hh) (fun _ _ _ _ => rfl) ?_ ?_ ?_ ?_
  · intro k _ hk
    exact setRow_other w _ k _ (fun e => hk (by simp [ownerB, e]))
  · intro b k v hb hv
    rcases hb with hb | hb
    · have := i.ok b k v hv
      have hlt : b < w.heap.size := by
        unfold World.cell? at this
        cases hh : w.heap[b]? with
        | none => simp [hh] at this
        | some o => exact (Array.getElem?_eq_some_iff.1 hh).1
      omega
    · simp only [ownerB, Option.some.injEq] at hb
      subst hb
      rw [h3] at hv; cases hv
  · exact ⟨rfl, (length_putCells cs vs off hle).symm, rfl, rfl⟩
  · intro m
    have hoff : off + U.length ≤ C.size := by rw [hU, h2]; exact hle
    refine ⟨_, setRow_heap w _ C _ e _ hC, ?_, h3, fun j u hu => ?_⟩
    · rw [length_putCells cs vs off hle]; simp; omega
    · rw [getElem?_putCells cs vs off j hle] at hu
      rw [Array.getD_eq_getD_getElem?, getElem?_putRow C U off j hoff]
      split at hu
      · rename_i hj
        rw [if_pos hj]
        exact ⟨(h4 j u hu).1, by have := (h4 j u hu).2.mono m; rwa [Array.getD_eq_getD_getElem?] at this⟩
      · rename_i hj
        rw [if_neg hj]
        split at hu
        · rename_i hj2
          rw [if_pos (by rw [hU]; exact hj2)]
          obtain ⟨a1, a2⟩ := hrel _ u hu
          refine ⟨a1, ?_⟩
          have := a2.mono m
          rwa [List.getD_eq_getElem?_getD] at this
        · rename_i hj2
          rw [if_neg (by rw [hU]; exact hj2)]
          exact ⟨(h4 j u hu).1, by have := (h4 j u hu).2.mono m; rwa [Array.getD_eq_getD_getElem?] at this⟩
  · intro b hb
    exact .inr hb

theorem aloadT_sound {t : TypeId} {g : Bool} {n : Nat} (hg : isAggT P t = some g) (hn : sizeT P t = some n) (i : Inv G h w) (hb : aloadT g n h x = some v) (hx : RelV G h x X) :
    ∃ V, (Instr.loadAt t X).run P w = .ok V w ∧ RelV G h v V := by
  unfold aloadT at hb
  split at hb
  · rename_i id off
    split at hb
    · rename_i x0 hgb
      have hid := getT_some hgb
      obtain ⟨rfl, _⟩ := hx.ptr_inv
      obtain ⟨C, h1, h2, h3, h4⟩ := i.blk id _ hid
      obtain ⟨V, r1, r2⟩ := run_loadVar' (P := P) (G := G) (h := h) (w := w) hg hn (G.blk id) off x0.2 off (fun j => C.getD j undef) hb (fun j u hu hj => by
        have hlt : j < C.size := by rw [h2]; exact (List.getElem?_eq_some_iff.1 hu).1
        refine ⟨?_, (h4 j u hu).2⟩
        rw [cell_of w _ _ h1, show off + (j - off) = j by omega, Array.getElem?_eq_getElem hlt]
        simp [Array.getD_eq_getD_getElem?, hlt])
      exact ⟨V, by simp [Instr.loadAt, Instr.sureAddr, r1], r2⟩
    · exact aload_sound hg hn i hb hx
  · exact aload_sound hg hn i hb hx
theorem astoreT_sound {t : TypeId} {n : Nat} {h' : Heap} (hn : sizeT P t = some n) (i : Inv G h w) (hb : astoreT n h x y = some h') (hx : RelV G h x X) (hy : RelV G h y Y) :
    ∃ w', (Instr.storeAt t X Y).run P w = .ok () w' ∧ Inv G h' w' ∧ Ext G h w G h' w' := by
  unfold astoreT at hb
  split at hb
  · rename_i id off
    cases hgb : getT h id with
    | none => simp only [hgb] at hb; exact astore_sound hn i hb hx hy
    | some x0 =>
      have hid := getT_some hgb
      simp only [hgb] at hb
      obtain ⟨z, hz, hzr⟩ : ∃ z : AVal, y.cells = z.cells ∧ RelV G h z Y := ⟨_, rfl, hy⟩
      rw [hz] at hb
      split at hb
      case isFalse => cases hb
      rename_i hcond
      obtain ⟨hlen, hle, hall⟩ := hcond
      injection hb with hb
      subst hb
      obtain ⟨rfl, _⟩ := hx.ptr_inv
      obtain ⟨C, h1, h2, h3, h4⟩ := i.blk id _ hid
      obtain ⟨c1, c2⟩ := agg_cells hzr hall
      have hU : Y.cells.toList.length = z.cells.length := by rw [Array.length_toList, c1]
      have h1c : ∀ u ∈ Y.cells.toList, u.oneCell' = true := by
        intro u hu
        obtain ⟨j, hj⟩ := List.getElem?_of_mem hu
        have hjl : j < z.cells.length := by rw [← hU]; exact (List.getElem?_eq_some_iff.1 hj).1
        obtain ⟨a1, a2⟩ := c2 j _ (List.getElem?_eq_getElem hjl)
        have hval : Y.cells.getD j undef = u := by rw [Array.getD_eq_getD_getElem?, ← Array.getElem?_toList, hj]; rfl
        rw [hval] at a2
        exact (a2.oneCell a1).1
      have hst := run_storeCells_at P (G.blk id) off x0.1 Y.cells.toList 0 C w h1 (by rw [Array.length_toList, h2]; omega) h1c
      simp only [Nat.add_zero] at hst
      have hw := i.writeT (off := off) (vs := keepTok h (x0.2.drop off) z.cells) (U := Y.cells.toList) hid h1 (by rw [keepTok_length]; omega) (by rw [keepTok_length]; exact hU) (fun j u hu => by
        obtain ⟨v, hv, hk⟩ := keepTok_get hu
        obtain ⟨a1, a2⟩ := c2 j v hv
        rw [List.getD_eq_getElem?_getD, Array.getElem?_toList]
        rw [Array.getD_eq_getD_getElem?] at a2
        exact keep_rel i hk a1 a2)
      refine ⟨_, ?_, hw⟩
      have hsz : Y.cells.size = n := by omega
      simp [Instr.storeAt, Instr.sureAddr, storeVar, run_sizeOf' hn, hsz, hst]
  · exact astore_sound hn i hb hx hy
theorem aboxT_sound {t : TypeId} {n : Nat} {p : AVal} {h' : Heap} (i : Inv G h w) (hb : anewT t n h x = some (p, h')) (hx : RelV G h x X) :
    ∃ V w' G', (Instr.box t X).run P w = .ok V w' ∧ Inv G' h' w' ∧ Ext G h w G' h' w' ∧ RelV G' h' p V := by
  obtain ⟨G', h1, h2, h3, _⟩ := i.newT t hb hx
  exact ⟨_, _, G', by simp [Instr.box, newVar, newRow, Sem.run_pure], h1, h2, h3⟩
theorem aallocT_sound {t : TypeId} {n : Nat} {z p : AVal} {h' : Heap} (i : Inv G h w) (hz : zeroT P t = some z) (hb : anewT t n h z = some (p, h')) :
    ∃ V w' G', (Instr.alloc t true (.tuple #[])).run P w = .ok V w' ∧ Inv G' h' w' ∧ Ext G h w G' h' w' ∧ RelV G' h' p V := by
  obtain ⟨Z, hz1, hz2⟩ := run_zeroValue' (P := P) (G := G) (h := h) (w := w) hz
  obtain ⟨G', h1, h2, h3, _⟩ := i.newT t hb hz2
  refine ⟨_, _, G', ?_, h1, h2, h3⟩
  simp [Instr.alloc, hz1, newVar, newRow, Sem.run_pure]
theorem aloadB_sound {tb : Bool} {t : TypeId} {g : Bool} {n : Nat} (hg : isAggT P t = some g) (hn : sizeT P t = some n) (i : Inv G h w) (hb : aloadB tb g n h x = some v) (hx : RelV G h x X) :
    ∃ V, (Instr.loadAt t X).run P w = .ok V w ∧ RelV G h v V := by
  cases tb with
  | true => exact aloadT_sound hg hn i hb hx
  | false => exact aload_sound hg hn i hb hx
theorem astoreB_sound {tb : Bool} {t : TypeId} {n : Nat} {h' : Heap} (hn : sizeT P t = some n) (i : Inv G h w) (hb : astoreB tb n h x y = some h') (hx : RelV G h x X) (hy : RelV G h y Y) :
    ∃ w', (Instr.storeAt t X Y).run P w = .ok () w' ∧ Inv G h' w' ∧ Ext G h w G h' w' := by
  cases tb with
  | true => exact astoreT_sound hn i hb hx hy
  | false => exact astore_sound hn i hb hx hy
theorem aboxB_sound {tb : Bool} {t : TypeId} {n : Nat} {p : AVal} {h' : Heap} (i : Inv G h w) (hb : anewB tb t n h x = some (p, h')) (hx : RelV G h x X) :
    ∃ V w' G', (Instr.box t X).run P w = .ok V w' ∧ Inv G' h' w' ∧ Ext G h w G' h' w' ∧ RelV G' h' p V := by
  cases tb with
  | true => exact aboxT_sound i hb hx
  | false => exact abox_sound i hb hx
theorem aallocB_sound {tb : Bool} {t : TypeId} {n : Nat} {z p : AVal} {h' : Heap} (i : Inv G h w) (hz : zeroT P t = some z) (hb : anewB tb t n h z = some (p, h')) :
    ∃ V w' G', (Instr.alloc t true (.tuple #[])).run P w = .ok V w' ∧ Inv G' h' w' ∧ Ext G h w G' h' w' ∧ RelV G' h' p V := by
  cases tb with
  | true => exact aallocT_sound i hz hb
  | false => exact aalloc_sound i hz hb
end
end
section
open Go Go.RowKit
section
variable {P : Program} {G : Gh} {h : Heap} {w : World} {x y v : AVal} {X Y V : Value}
theorem aappendC_sound {t tx ty e : TypeId} {sz bytes : Nat} {z r : AVal} {h' : Heap} {new : List (List AVal)} {news : List Value} (i : Inv G h w) (ht : P.underlying t = some (.slice e)) (hn : sizeT P e = some sz) (hby : bytesT P e = some bytes)
    (hz : zeroT P e = some z) (hzj : z.isJunk = false) (hzl : z.cells.length = sz) (hsz : sz ≠ 0)
    (hsrc : Go.Src P sz tx Y new.length news w) (hrl0 : ∀ r ∈ new, r.length = sz) (hrel0 : ∀ (i' j : Nat) (row : List AVal) (c : AVal), new[i']? = some row → row[j]? = some c → ∃ u, news[i' * sz + j]? = some u ∧ RelP G.H c u ∧ c.cellOk = true)
    {t1 : Nat} (ht1 : t1 = e + 1) (hb : aappendT t1 sz bytes h x (.slice new .no) = some (r, h')) (hx : RelV G h x X) :
    ∃ V w' G', (Builtin.append_ #[t, tx] ty #[X, Y]).run P w = .ok V w' ∧ Inv G' h' w' ∧ Ext G h w G' h' w' ∧ RelV G' h' r V := by
  obtain ⟨ti, hti, hts, htb, Z, hzz, hZs⟩ : ∃ ti, P.info? e = some ti ∧ ti.size = sz ∧ ti.bytes = bytes ∧ ∃ Z, ti.zero = some Z ∧ Z.cells.size = sz := by
    unfold sizeT at hn; unfold bytesT at hby; unfold zeroT at hz
    cases hi : P.info? e with
    | none => simp [hi] at hn
    | some ti =>
      simp [hi] at hn hby hz
      obtain ⟨Z, hZ1, hZ2⟩ := hz
      refine ⟨ti, rfl, hn, hby, Z, hZ1, ?_⟩
      subst hZ2
      rw [← hzl]; exact (cells_rel hzj (relV_ofConst G h Z)).1.symm
  have hsrc' : Go.Src P ti.size tx Y new.length news w := by rw [hts]; exact hsrc
  have hrow : ∀ new', arowsS sz h (.slice new .no) = some new' → new' = new := by
    intro new' hh
    simp only [arowsS] at hh
    split at hh
    · exact (Option.some.inj hh).symm
    · cases hh
  have hzero : ∀ (a : Option Addr) (n cap : Nat), n ≤ cap → new.length = 0 → (Builtin.append_ #[t, tx] ty #[.slice a n cap, Y]).run P w = .ok (.slice a n cap) w := by
    intro a n cap hle h0
    have e0 : news = [] := List.eq_nil_of_length_eq_zero (by rw [hsrc.newsLen, h0, Nat.zero_mul])
    have hl := hsrc'.len
    have hc := hsrc'.cells
    rw [h0] at hl hc
    rw [e0] at hc
    rcases hsrc'.kind with ⟨e', hk⟩ | hk <;> cases a <;> simp [Builtin.append_, run_underlying ht, run_underlying hk, Go.sizeOf, Go.typeInfo, hti, hl, hc, hle, storeCells, Sem.run_pure]
  have hgrow0 : 0 < new.length → ((new.length : Nat) : Int) ≤ 9223372036854775807 → new.length * ti.bytes ≤ 140737488355328 → (Builtin.append_ #[t, tx] ty #[.slice none 0 0, Y]).run P w =
      .ok (.slice (some ⟨w.heap.size, 0, none⟩) new.length (grownCap w new.length 0 e)) (w.drew.alloc (.cells (news.toArray ++ Builtin.zeroCells Z.cells (grownCap w new.length 0 e - new.length)) e)) := by
    intro h0 h1 h2
    have := run_append_grow_src (P := P) w t tx ty e ti Z ht hti hzz none 0 0 [] (run_firstCells_none w.drew ti.size 0 0 0) Y new.length news hsrc' (by omega) (by omega) (by rw [Nat.zero_add, nextslicecap_zero h0]; omega)
    simpa using this
  unfold aappendT at hb
  split at hb
  · -- the holder of a token
    rename_i rows id new' hnew
    obtain rfl := hrow _ hnew
    split at hb
    · rename_i n sz0 t0 hid
      split at hb
      case isFalse => cases hb
      rename_i hcond
      obtain ⟨hlen, hszz, hbytes, hsmall⟩ := hcond
      obtain ⟨hX, hrl, hcur⟩ := own_cells i hx hid hlen
      have htnew : (bif sz0 == 0 || t0 == t1 then t1 else 0) ≠ 0 → e + 1 = (bif sz0 == 0 || t0 == t1 then t1 else 0) := by
        cases (sz0 == 0 || t0 == t1) <;> simp [ht1]
      have httin : ∀ e0 : TypeId, 0 < sz0 → (t0 ≠ 0 → e0 + 1 = t0) → (bif sz0 == 0 || t0 == t1 then t1 else 0) ≠ 0 → e0 + 1 = (bif sz0 == 0 || t0 == t1 then t1 else 0) := by
        intro e0 h1 h2
        have : (sz0 == 0) = false := by simp; omega
        rw [this, Bool.false_or]
        cases hq : t0 == t1 with
        | true =>
          have : t0 = t1 := by simpa using hq
          subst this
          exact h2
        | false => simp
      split at hb
      · rename_i hm
        simp only [Option.some.injEq, Prod.mk.injEq] at hb
        obtain ⟨rfl, rfl⟩ := hb
        refine ⟨X, w, G, ?_, i, Ext.refl G h w, hx⟩
        rcases hcur with ⟨_, hc⟩ | ⟨b, cap, C, e0, hc, _, hle, _⟩
        · rw [hX, hc]; exact hzero none 0 0 (Nat.le_refl _) hm
        · rw [hX, hc]; exact hzero _ n cap hle hm
      · rename_i hm
        simp only [Option.some.injEq, Prod.mk.injEq] at hb
        obtain ⟨rfl, rfl⟩ := hb
        have hone := hsrc.one
        have hnl : news.length = new'.length * ti.size := by rw [hts]; exact hsrc.newsLen
        -- what the result's relation wants
        have fin : ∀ (bb cap' : Nat) (xs : List Value) (G' : Gh), xs.length = n * sz → cap' ≥ n + new'.length → Mono G h G' (h.set id (.front (n + new'.length) sz (bif sz0 == 0 || t0 == t1 then t1 else 0))) →
            (∀ (k : Nat) u, (xs ++ news)[k]? = some u → G'.H bb k = some u) → G'.cur id = .slice (some ⟨bb, 0, none⟩) (n + new'.length) cap' →
            (∀ (i' j : Nat) (row : List AVal) (c : AVal), rows[i']? = some row → row[j]? = some c → ∃ u, xs[i' * sz + j]? = some u ∧ RelP G.H c u ∧ c.cellOk = true) →
            (∀ r ∈ rows, r.length = sz) →
            RelV G' (h.set id (.front (n + new'.length) sz (bif sz0 == 0 || t0 == t1 then t1 else 0))) (.slice (rows ++ new') (.own id)) (.slice (some ⟨bb, 0, none⟩) (n + new'.length) cap') := by
          intro bb cap' xs G' hxl hc hm' hH hcur' hcells hrl'
          have hidl : id < h.length := (List.getElem?_eq_some_iff.1 hid).1
          have hrl2 : ∀ r ∈ rows ++ new', r.length = sz := fun r hr => (List.mem_append.1 hr).elim (hrl' r) (hrl0 r)
          have hlen2 : (rows ++ new').length = n + new'.length := by rw [List.length_append, hlen]
          refine .own (t := bif sz0 == 0 || t0 == t1 then t1 else 0) _ id (n + new'.length) sz _ ?_ (by simp [hidl]) (by omega) hrl2 (fun _ => hcur'.symm)
          have := relP_block (H := G'.H) (rows := rows ++ new') (sz := sz) (b := bb) (cap := cap') (all := xs ++ news) hrl2 (by omega) hH
            (rel_append (by rw [hlen]; exact hxl) hrl' (fun i' j row c h1 h2 => by obtain ⟨u, e1, e2, e3⟩ := hcells i' j row c h1 h2; exact ⟨u, e1, e2.mono hm'.hmono, e3⟩)
              (fun i' j row c h1 h2 => by obtain ⟨u, e1, e2, e3⟩ := hrel0 i' j row c h1 h2; exact ⟨u, e1, e2.mono hm'.hmono, e3⟩))
          rwa [hlen2] at this
        rw [hX]
        rcases hcur with ⟨rfl, hc⟩ | ⟨b, cap, C, e0, hc, hC, hle, hmx, hCs, hs0, hHn, hcells, hte⟩
        · -- nil so far
          rw [hc]
          have hrun := hgrow0 (by omega) (by omega) (by rw [htb]; rw [Nat.zero_add] at hbytes; omega)
          have hcapg := grownCap_ge w new'.length 0 e
          have hcapm := grownCap_le_maxLen w new'.length 0 e (by simp only [maxLen]; omega)
          obtain ⟨G', g1, g2, g3, g4, g5⟩ := i.grow (id := id) (n := 0) (n' := 0 + new'.length) (t' := bif sz0 == 0 || t0 == t1 then t1 else 0) (sz := sz0) (sz' := sz) (bb := w.heap.size) (cap' := grownCap w new'.length 0 e) (all := news)
            (w' := w.drew.alloc (.cells (news.toArray ++ Builtin.zeroCells Z.cells (grownCap w new'.length 0 e - new'.length)) e)) hid (by omega) (by omega) rfl rfl rfl (by simp)
            (fun k hk _ _ => heap_alloc_lt w.drew _ k hk) (.inl (Nat.le_refl _)) (heap_alloc_new w.drew _) (by omega) hcapm
            (by simp only [Array.size_append, List.size_toArray, size_zeroCells, hZs, hsrc.newsLen, ← Nat.add_mul]; congr 1; omega)
            (by omega) (by rw [hsrc.newsLen]; simp) (fun k u hu => by
              rw [Array.getElem?_append_left (by simpa using (List.getElem?_eq_some_iff.1 hu).1)]; simpa using hu)
            (fun k v hv => by have := i.H_lt hv; omega) htnew
          refine ⟨_, _, G', hrun, g1, g2, ?_⟩
          have := fin w.heap.size (grownCap w new'.length 0 e) [] G' (by simp) (by omega) g2.toMono (by simpa using g4) g5 (fun i' j row c h1 _ => by
            have : rows = [] := List.eq_nil_of_length_eq_zero hlen
            subst this; simp at h1) (fun r hr => by
            have : rows = [] := List.eq_nil_of_length_eq_zero hlen
            subst this; cases hr)
          simpa using this
        · have hs : sz0 = sz := by omega
          rw [hc]
          by_cases hroom : n + new'.length ≤ cap
          · subst hs
            have hfit : n * ti.size + news.length ≤ C.size := by rw [hts, hsrc.newsLen, hCs, ← Nat.add_mul]; exact Nat.mul_le_mul_right _ hroom
            have hst := run_storeCells_at P b (n * ti.size) e0 news 0 C w hC (by simpa using hfit) hone
            simp only [Nat.add_zero] at hst
            have hrun : (Builtin.append_ #[t, tx] ty #[.slice (some ⟨b, 0, none⟩) n cap, Y]).run P w =
                .ok (.slice (some ⟨b, 0, none⟩) (n + new'.length) cap) (w.setRow b (C.toList.take (n * ti.size) ++ news ++ C.toList.drop (n * ti.size + news.length)).toArray) := by
              rcases hsrc'.kind with ⟨e', hk⟩ | hk <;> simp [Builtin.append_, run_underlying ht, run_underlying hk, Go.sizeOf, Go.typeInfo, hti, hsrc'.len, hroom, hsrc'.cells, Addr.add_lit, hst]
            rw [hts] at hrun hfit
            have hxl : (C.toList.take (n * sz0)).length = n * sz0 := by rw [List.length_take, Array.length_toList]; omega
            obtain ⟨G', g1, g2, g3, g4, g5⟩ := i.grow (id := id) (n := n) (n' := n + new'.length) (t' := bif sz0 == 0 || t0 == t1 then t1 else 0) (sz := sz0) (sz' := sz0) (bb := b) (cap' := cap) (all := C.toList.take (n * sz0) ++ news)
              (C' := (C.toList.take (n * sz0) ++ news ++ C.toList.drop (n * sz0 + news.length)).toArray) (e' := e0)
              (w' := w.setRow b (C.toList.take (n * sz0) ++ news ++ C.toList.drop (n * sz0 + news.length)).toArray) hid (by omega) (fun _ => rfl) (by simp) (by simp) (by simp) (by simp)
              (fun k hk _ hne => setRow_other w b k _ hne) (.inr (by rw [hc]; rfl)) (setRow_heap w b C _ e0 _ hC) hroom hmx
              (by simp; omega) hs0
              (by rw [List.length_append, hxl, hsrc.newsLen, Nat.add_mul]) (fun k u hu => by
                rw [List.getElem?_toArray, List.getElem?_append_left (List.getElem?_eq_some_iff.1 hu).1]; exact hu)
              (fun k v hv => by
                have hk : k < n * sz0 := Classical.byContradiction fun hk => by rw [hHn k (by omega)] at hv; cases hv
                have := i.ok _ _ _ hv
                rw [cell_of w _ _ hC] at this
                rw [List.getElem?_append_left (by omega), List.getElem?_take, if_pos hk, Array.getElem?_toList]; exact this) (httin e0 hs0 hte)
            exact ⟨_, _, G', hrun, g1, g2, fin b cap _ G' hxl hroom g2.toMono g4 g5 hcells hrl⟩
          · subst hs
            have hxl : (C.toList.take (n * sz0)).length = n * sz0 := by
              rw [List.length_take, Array.length_toList, hCs]
              have : n * sz0 ≤ cap * sz0 := Nat.mul_le_mul_right _ hle
              omega
            have hxc : ∀ j u, (C.toList.take (n * sz0))[j]? = some u → w.cell? ((⟨b, 0, none⟩ : Addr).add j) = some u := by
              intro j u hu
              rw [List.getElem?_take] at hu
              split at hu
              · rw [add_plain, cell_of w _ _ hC, Nat.zero_add]; rwa [Array.getElem?_toList] at hu
              · cases hu
            have hrun := run_append_grow_src (P := P) w t tx ty e ti Z ht hti hzz (some ⟨b, 0, none⟩) n cap (C.toList.take (n * sz0)) (run_firstCells_some (P := P) w.drew ti.size n ⟨b, 0, none⟩ n cap _ (by rw [hts]; exact hxl) (by simpa using hxc)) Y new'.length news hsrc' (by omega) (by omega)
              (growslice_fits (by omega) (by rw [htb]; exact hbytes))
            rw [show (C.toList.take (n * sz0) ++ news).toArray = (C.toList.take (n * sz0)).toArray ++ news.toArray by simp] at hrun
            have hcapg := grownCap_ge w (n + new'.length) cap e
            have hcapm := grownCap_le_maxLen w (n + new'.length) cap e (by simp only [maxLen]; omega)
            obtain ⟨G', g1, g2, g3, g4, g5⟩ := i.grow (id := id) (n := n) (n' := n + new'.length) (t' := bif sz0 == 0 || t0 == t1 then t1 else 0) (sz := sz0) (sz' := sz0) (bb := w.heap.size) (cap' := grownCap w (n + new'.length) cap e) (all := C.toList.take (n * sz0) ++ news)
              (w' := w.drew.alloc (.cells ((C.toList.take (n * sz0)).toArray ++ news.toArray ++ Builtin.zeroCells Z.cells (grownCap w (n + new'.length) cap e - (n + new'.length))) e)) hid (by omega)
              (fun _ => rfl) rfl rfl rfl (by simp)
              (fun k hk _ _ => heap_alloc_lt w.drew _ k hk) (.inl (Nat.le_refl _)) (heap_alloc_new w.drew _) (by omega) hcapm
              (by simp only [Array.size_append, List.size_toArray, size_zeroCells, hZs, hsrc.newsLen, hxl, ← Nat.add_mul]; congr 1; omega)
              (by omega) (by rw [List.length_append, hxl, hsrc.newsLen, Nat.add_mul]) (fun k u hu => by
                have hk := (List.getElem?_eq_some_iff.1 hu).1
                rw [Array.getElem?_append_left (by simpa using hk), List.append_toArray, List.getElem?_toArray]; exact hu)
              (fun k v hv => by have := i.H_lt hv; omega) htnew
            exact ⟨_, _, G', hrun, g1, g2, fin w.heap.size _ _ G' hxl (by omega) g2.toMono g4 g5 hcells hrl⟩
    · cases hb
  · -- a nil slice without a token
    rename_i new' hnew
    obtain rfl := hrow _ hnew
    have hX := hx.nil_inv
    split at hb
    · rename_i hm
      simp only [Option.some.injEq, Prod.mk.injEq] at hb
      obtain ⟨rfl, rfl⟩ := hb
      refine ⟨X, w, G, ?_, i, Ext.refl G h w, hx⟩
      rw [hX]
      exact hzero none 0 0 (Nat.le_refl _) hm
    · rename_i hm
      split at hb
      case isFalse => cases hb
      rename_i hcond
      obtain ⟨hbytes, hsmall⟩ := hcond
      simp only [Option.some.injEq, Prod.mk.injEq] at hb
      obtain ⟨rfl, rfl⟩ := hb
      have hnl : news.length = new'.length * ti.size := by rw [hts]; exact hsrc.newsLen
      obtain ⟨G1, i1, x1, hc1, hH1⟩ := i.pushTok
      rw [hX]
      have hrun := hgrow0 (by omega) (by omega) (by rw [htb]; omega)
      have hcapg := grownCap_ge w new'.length 0 e
      have hcapm := grownCap_le_maxLen w new'.length 0 e (by simp only [maxLen]; omega)
      obtain ⟨G', g1, g2, g3, g4, g5⟩ := i1.grow (id := h.length) (n := 0) (n' := new'.length) (t := 0) (t' := t1) (sz := 0) (sz' := sz) (bb := w.heap.size) (cap' := grownCap w new'.length 0 e) (all := news)
        (w' := w.drew.alloc (.cells (news.toArray ++ Builtin.zeroCells Z.cells (grownCap w new'.length 0 e - new'.length)) e)) (by simp) (by omega) (by omega) rfl rfl rfl (by simp)
        (fun k hk _ _ => heap_alloc_lt w.drew _ k hk) (.inl (Nat.le_refl _)) (heap_alloc_new w.drew _) (by omega) hcapm
        (by simp only [Array.size_append, List.size_toArray, size_zeroCells, hZs, hsrc.newsLen, ← Nat.add_mul]; congr 1; omega)
        (by omega) hsrc.newsLen (fun k u hu => by
          rw [Array.getElem?_append_left (by simpa using (List.getElem?_eq_some_iff.1 hu).1)]; simpa using hu)
        (fun k v hv => by have := i1.H_lt hv; omega) (fun _ => ht1.symm)
      have hset : (h ++ [ABlk.front 0 0]).set h.length (.front new'.length sz t1) = h ++ [.front new'.length sz t1] := by simp
      rw [hset] at g1 g2
      refine ⟨_, _, G', hrun, g1, x1.trans g2, ?_⟩
      have m := (x1.trans g2).toMono
      refine .own (t := t1) _ h.length new'.length sz _ ?_ (by simp) (Nat.le_refl _) hrl0 (fun _ => g5.symm)
      exact relP_block hrl0 hcapg (fun k u hu => g4 k u hu) (fun i' j row c h1 h2 => by
        obtain ⟨u, e1, e2, e3⟩ := hrel0 i' j row c h1 h2; exact ⟨u, e1, e2.mono m.hmono, e3⟩)
  · cases hb

theorem arowsS_self {sz : Nat} {new : List (List AVal)} (hr : ∀ r ∈ new, r.length = sz) : arowsS sz h (.slice new .no) = some new := by
  simp only [arowsS]
  rw [if_pos]
  simpa using hr
theorem aappendT_sound {t ty e : TypeId} {sz bytes : Nat} {z r : AVal} {h' : Heap} (i : Inv G h w) (ht : P.underlying t = some (.slice e)) (hn : sizeT P e = some sz) (hby : bytesT P e = some bytes)
    (hz : zeroT P e = some z) (hzj : z.isJunk = false) (hzl : z.cells.length = sz) (hsz : sz ≠ 0) {t1 : Nat} (ht1 : t1 = e + 1) (hb : aappendT t1 sz bytes h x y = some (r, h')) (hx : RelV G h x X) (hy : RelV G h y Y) :
    ∃ V w' G', (Builtin.append_ #[t, t] ty #[X, Y]).run P w = .ok V w' ∧ Inv G' h' w' ∧ Ext G h w G' h' w' ∧ RelV G' h' r V := by
  cases hrw : arowsS sz h y with
  | none =>
    unfold aappendT at hb
    rw [hrw] at hb
    split at hb <;> simp_all
  | some new =>
    obtain ⟨a, news, src⟩ := arowsS_sound i hrw hy
    obtain ⟨capY, hYf⟩ := src.form
    have hb' : aappendT t1 sz bytes h x (.slice new .no) = some (r, h') := by
      unfold aappendT at hb ⊢
      rw [arowsS_self src.rlen]
      rw [hrw] at hb
      exact hb
    have hsrc : Go.Src P sz t Y new.length news w := by
      rw [hYf]
      cases a with
      | some ad => exact Go.Src.ofSlice w ht ad _ _ news src.len (fun j u hu => by obtain ⟨ad', e1, e2⟩ := src.at_ j u hu; cases e1; exact e2) src.one
      | none =>
        have h0 : news.length = 0 := by
          rcases Nat.eq_zero_or_pos news.length with h0 | h0
          · exact h0
          · obtain ⟨ad, e1, _⟩ := src.at_ 0 _ (List.getElem?_eq_getElem h0); cases e1
        have hn0 : new.length = 0 := by
          have := src.len
          rw [h0] at this
          rcases Nat.mul_eq_zero.1 this.symm with h1 | h1
          · exact h1
          · exact absurd h1 hsz
        have hne : news = [] := List.eq_nil_of_length_eq_zero h0
        subst hne
        rw [hn0]
        exact Go.Src.ofNil w ht capY
    exact aappendC_sound i ht hn hby hz hzj hzl hsz hsrc src.rlen src.rel ht1 hb' hx

theorem aappendStr_sound {t tx ty e : TypeId} {sz bytes : Nat} {z r : AVal} {h' : Heap} (i : Inv G h w) (ht : P.underlying t = some (.slice e)) (hu : P.underlying tx = some .string) (hn : sizeT P e = some sz) (hby : bytesT P e = some bytes)
    (hz : zeroT P e = some z) (hzj : z.isJunk = false) {t1 : Nat} (ht1 : t1 = e + 1) (hb : aappendStr t1 sz bytes z.cells.length h x y = some (r, h')) (hx : RelV G h x X) (hy : RelV G h y Y) :
    ∃ V w' G', (Builtin.append_ #[t, tx] ty #[X, Y]).run P w = .ok V w' ∧ Inv G' h' w' ∧ Ext G h w G' h' w' ∧ RelV G' h' r V := by
  unfold aappendStr at hb
  split at hb
  · rename_i bs
    cases hc : (sz == 1 && z.cells.length == 1) with
    | false => rw [hc] at hb; cases hb
    | true =>
      rw [hc] at hb
      simp only [cond_true] at hb
      simp only [Bool.and_eq_true, beq_iff_eq] at hc
      obtain ⟨rfl, hzl⟩ := hc
      have := hy.str_inv
      subst this
      have hl : (srows bs).length = (⟨bs.toArray⟩ : ByteArray).size := by simp [srows, ByteArray.size]
      have hbc : byteCells ⟨bs.toArray⟩ = bs.map fun b => Value.int .u8 b.toNat := by simp [byteCells]
      have hsrc := Go.Src.ofString (P := P) w hu ⟨bs.toArray⟩
      rw [← hl] at hsrc
      refine aappendC_sound i ht hn hby hz hzj hzl (by decide) hsrc ?_ ?_ ht1 hb hx
      · intro r hr
        obtain ⟨b, _, rfl⟩ := List.mem_map.1 hr
        rfl
      · intro i' j row c h1 h2
        unfold srows at h1
        rw [List.getElem?_map, Option.map_eq_some_iff] at h1
        obtain ⟨b, hb1, rfl⟩ := h1
        cases j with
        | zero =>
          simp only [List.getElem?_cons_zero, Option.some.injEq] at h2
          subst h2
          exact ⟨.int .u8 b.toNat, by rw [hbc]; simp [hb1], .int _ _, rfl⟩
        | succ j => simp at h2
  · cases hb
end
end
section
open Go Go.RowKit

def RelVs (G : Gh) (h : Heap) (vs : List AVal) (A : Array Value) : Prop := vs.length = A.size ∧ ∀ (i : Nat) (v : AVal), vs[i]? = some v → RelV G h v (A.getD i undef)

/-- What a call's answer says. -/
def CallPost (G : Gh) (h : Heap) (w : World) (r : Res) (h' : Heap) (e : Ending) (w' : World) : Prop :=
  ∃ G', Ext G h w G' h' w' ∧ Inv G' h' w' ∧ match r with
    | .ret v => ∃ V, e = .returned V ∧ RelV G' h' v V
    | .pan v => ∃ V, e = .panicked [{ v := V, recovered := false }] ∧ RelV G' h' v V

def SoundK (P : Program) (A : Ann) (K : CallO) : Prop :=
  ∀ (f : Nat) (args : List AVal) (h : Heap) (r : Res) (h' : Heap), K f args h = some (r, h') →
    ∀ (G : Gh) (w : World) (X : Array Value), Inv G h w → GlobOk A G h w → RelVs G h args X →
      (∀ w, (callFunc f X).run P w = .ok (.enter f X) w) ∧ Calls P f X w (CallPost G h w r h')

theorem untok1_rel {G : Gh} {h : Heap} {x : AVal} {X : Value} (hx : RelV G h x X) : RelV G h x.untok1 X := by
  cases x <;> simp only [AVal.untok1] <;> first | exact hx | exact .p _ _ hx.slice_inv
theorem untok_rel {G : Gh} {h : Heap} {x : AVal} {X : Value} (hx : RelV G h x X) : RelV G h x.untok X := by
  have agg : ∀ (cs : List AVal) (X : Value), RelV G h (.agg cs) X → RelV G h (.agg (cs.map AVal.untok1)) X := by
    intro cs X hx
    obtain ⟨C, rfl, hl, hr⟩ := hx.agg_inv
    refine .agg _ _ (by simpa using hl) fun i u hu => ?_
    simp only [List.getElem?_map, Option.map_eq_some_iff] at hu
    obtain ⟨a, ha, rfl⟩ := hu
    exact untok1_rel (hr i a ha)
  cases x with
  | agg cs => exact agg cs X hx
  | tuple vs =>
    obtain ⟨C, rfl, hl, hr⟩ := hx.tuple_inv
    refine .tuple _ _ (by simpa using hl) fun i u hu => ?_
    simp only [List.getElem?_map, Option.map_eq_some_iff] at hu
    obtain ⟨a, ha, rfl⟩ := hu
    have := hr i a ha
    cases a <;> first | exact agg _ _ this | exact untok1_rel this
  | _ => exact untok1_rel hx

section
variable {J : Act → Prop} {cx : Cx} {o : Oper} {ρ : List AVal} {h : Heap} {kv kp : AVal → Heap → Option R} {r : R} {G : Gh} {w : World} {a : Act} {N : Act → World → Prop} {Q : Exit → Act → World → Prop}

/-- What the continuations give. -/
def KvOk (o : Oper) (kv : AVal → Heap → Option R) (r : R) (G : Gh) (h : Heap) (w : World) (a : Act) (N : Act → World → Prop) : Prop :=
  ∀ v h' G' w' V, kv v h' = some r → Ext G h w G' h' w' → Inv G' h' w' → RelV G' h' v V → N (a.put o.dst V) w'
def KpOk (kp : AVal → Heap → Option R) (r : R) (G : Gh) (h : Heap) (w : World) (a : Act) (Q : Exit → Act → World → Prop) : Prop :=
  ∀ v h' G' w' V, kp v h' = some r → Ext G h w G' h' w' → Inv G' h' w' → RelV G' h' v V → Q (.panic [{ v := V, recovered := false }]) a w'

theorem wp_val {V : Value} {w' : World} (hr : (execOp a.eval o).run cx.P w = .ok (.value V) w') (hN : N (a.put o.dst V) w') : o.wp cx.P a w N Q := by
  unfold Oper.wp; rw [hr]; exact hN
theorem wp_skip' {w' : World} (hr : (execOp a.eval o).run cx.P w = .ok .skip w') (hN : N (a.put o.dst undef) w') : o.wp cx.P a w N Q := by
  unfold Oper.wp; rw [hr]; exact hN

theorem run_value {s : Sem Value} {V : Value} {w' : World} (h : s.run cx.P w = .ok V w') : (do pure (Next.value (← s)) : Sem Next).run cx.P w = .ok (.value V) w' := by
  simp [h, Sem.run_pure]
theorem run_unit {s : Sem Unit} {w' : World} (h : s.run cx.P w = .ok () w') : (do s; pure Next.skip : Sem Next).run cx.P w = .ok .skip w' := by
  simp [h, Sem.run_pure]

/-- An operation whose run leaves the world alone. -/
theorem pure_case {v : AVal} (i : Inv G h w) (hk : kv v h = some r) (hkv : KvOk o kv r G h w a N) (hr : ∃ V, (execOp a.eval o).run cx.P w = .ok (.value V) w ∧ RelV G h v V) : o.wp cx.P a w N Q := by
  obtain ⟨V, h1, h2⟩ := hr
  exact wp_val h1 (hkv v h G w V hk (Ext.refl G h w) i h2)

/-- An operation that makes a value and turns the world. -/
theorem mem_case {v : AVal} {h' : Heap} (hk : kv v h' = some r) (hkv : KvOk o kv r G h w a N)
    (hr : ∃ V w' G', (execOp a.eval o).run cx.P w = .ok (.value V) w' ∧ Inv G' h' w' ∧ Ext G h w G' h' w' ∧ RelV G' h' v V) : o.wp cx.P a w N Q := by
  obtain ⟨V, w', G', h1, h2, h3, h4⟩ := hr
  exact wp_val h1 (hkv v h' G' w' V hk h3 h2 h4)

theorem builtin_sound {c : Call} {b : Builtin} (ho : o.op = .call c) (hcal : c.callee = .builtin b) (hb : builtinOp cx b c.argTypes.toList (c.args.toList.map (aval cx.A ρ)) h kv = some r) (i : Inv G h w)
    (ev : ∀ x, RelV G h (aval cx.A ρ x) (a.eval x)) (hkv : KvOk o kv r G h w a N) : o.wp cx.P a w N Q := by
  have run : ∀ (s : Sem Value) (V : Value) (w' : World), s.run cx.P w = .ok V w' → (∀ consts, (builtin b c.argTypes o.type consts (c.args.map a.eval)).run cx.P w = (do pure (Next.value (← s)) : Sem Next).run cx.P w) →
      (execOp a.eval o).run cx.P w = .ok (.value V) w' := by
    intro s V w' h1 h2
    simp only [execOp, ho, resolve, hcal, Sem.run_bind, Sem.run_pure, Result.andThen_ok, invoke]
    exact (h2 _).trans (run_value h1)
  unfold builtinOp at hb
  split at hb
  -- len
  · rename_i t x hT hA
    obtain ⟨x0, hx0, rfl⟩ : ∃ x0, c.args = #[x0] ∧ x = aval cx.A ρ x0 := by
      cases hc : c.args with
      | mk l => rw [hc] at hA; cases l with
        | nil => simp at hA
        | cons y r => simp at hA; exact ⟨y, by simp [hA.2], hA.1.symm⟩
    have hT' : c.argTypes = #[t] := by cases hc : c.argTypes with | mk l => rw [hc] at hT; simp at hT; rw [hT]
    split at hb
    · rename_i n e ht
      refine pure_case i hb hkv ⟨.int .i64 n, run (Builtin.len_ #[t] o.type #[a.eval x0]) _ _ ?_ (fun _ => by simp [builtin, hx0, hT']), .p _ _ (.int _ _)⟩
      simp [Builtin.len_, run_underlying ht, goInt, Sem.run_pure]
    · rename_i ht
      obtain ⟨v, hv, hk⟩ := Option.bind_eq_some_iff.1 hb
      obtain ⟨V, e1, e2⟩ := alenStr_sound (P := cx.P) (w := w) (ty := o.type) ht hv (ev x0)
      exact pure_case i hk hkv ⟨V, run _ _ _ e1 (fun _ => by simp [builtin, hx0, hT']), e2⟩
    · rename_i e ht
      obtain ⟨v, hv, hk⟩ := Option.bind_eq_some_iff.1 hb
      obtain ⟨V, e1, e2⟩ := alenSl_sound (P := cx.P) (w := w) (ty := o.type) ht hv (ev x0)
      exact pure_case i hk hkv ⟨V, run _ _ _ e1 (fun _ => by simp [builtin, hx0, hT']), e2⟩
    · cases hb
  -- min
  · rename_i x y hA
    obtain ⟨x0, y0, hx0, rfl, rfl⟩ : ∃ x0 y0, c.args = #[x0, y0] ∧ x = aval cx.A ρ x0 ∧ y = aval cx.A ρ y0 := by
      cases hc : c.args with
      | mk l => rw [hc] at hA; match l, hA with
        | [p, q], hA => simp at hA; exact ⟨p, q, rfl, hA.1.symm, hA.2.symm⟩
    obtain ⟨v, hv, hk⟩ := Option.bind_eq_some_iff.1 hb
    obtain ⟨V, e1, e2⟩ := amin2_sound (P := cx.P) (w := w) hv (ev x0) (ev y0)
    exact pure_case i hk hkv ⟨V, run (Builtin.min2 (a.eval x0) (a.eval y0)) _ _ e1 (fun _ => by simp [builtin, hx0, Builtin.min_]), e2⟩
  -- max
  · rename_i x y hA
    obtain ⟨x0, y0, hx0, rfl, rfl⟩ : ∃ x0 y0, c.args = #[x0, y0] ∧ x = aval cx.A ρ x0 ∧ y = aval cx.A ρ y0 := by
      cases hc : c.args with
      | mk l => rw [hc] at hA; match l, hA with
        | [p, q], hA => simp at hA; exact ⟨p, q, rfl, hA.1.symm, hA.2.symm⟩
    obtain ⟨v, hv, hk⟩ := Option.bind_eq_some_iff.1 hb
    obtain ⟨V, e1, e2⟩ := amax2_sound (P := cx.P) (w := w) hv (ev x0) (ev y0)
    exact pure_case i hk hkv ⟨V, run (Builtin.max2 (a.eval x0) (a.eval y0)) _ _ e1 (fun _ => by simp [builtin, hx0, Builtin.max_]), e2⟩
  -- min of more
  · rename_i x y z r' hA
    obtain ⟨x0, l0, hx0, rfl, hl0⟩ : ∃ x0 l0, c.args.toList = x0 :: l0 ∧ x = aval cx.A ρ x0 ∧ y :: z :: r' = l0.map (aval cx.A ρ) := by
      cases hc : c.args.toList with
      | nil => rw [hc] at hA; simp at hA
      | cons p q => rw [hc] at hA; simp only [List.map_cons, List.cons.injEq] at hA; exact ⟨p, q, rfl, hA.1.symm, hA.2.symm⟩
    obtain ⟨v, hv, hk⟩ := Option.bind_eq_some_iff.1 hb
    rw [hl0] at hv
    obtain ⟨V, e1, e2⟩ := aminN_sound (P := cx.P) (w := w) (L := l0.map a.eval) hv (ev x0) (by simp) fun j u U hu hU => by
      simp only [List.getElem?_map, Option.map_eq_some_iff] at hu hU
      obtain ⟨q, hq, rfl⟩ := hu
      obtain ⟨q', hq', rfl⟩ := hU
      rw [hq] at hq'; cases hq'
      exact ev q
    exact pure_case i hk hkv ⟨V, run _ _ _ e1 (fun _ => by simp [builtin, Builtin.min_, hx0]), e2⟩
  -- max of more
  · rename_i x y z r' hA
    obtain ⟨x0, l0, hx0, rfl, hl0⟩ : ∃ x0 l0, c.args.toList = x0 :: l0 ∧ x = aval cx.A ρ x0 ∧ y :: z :: r' = l0.map (aval cx.A ρ) := by
      cases hc : c.args.toList with
      | nil => rw [hc] at hA; simp at hA
      | cons p q => rw [hc] at hA; simp only [List.map_cons, List.cons.injEq] at hA; exact ⟨p, q, rfl, hA.1.symm, hA.2.symm⟩
    obtain ⟨v, hv, hk⟩ := Option.bind_eq_some_iff.1 hb
    rw [hl0] at hv
    obtain ⟨V, e1, e2⟩ := amaxN_sound (P := cx.P) (w := w) (L := l0.map a.eval) hv (ev x0) (by simp) fun j u U hu hU => by
      simp only [List.getElem?_map, Option.map_eq_some_iff] at hu hU
      obtain ⟨q, hq, rfl⟩ := hu
      obtain ⟨q', hq', rfl⟩ := hU
      rw [hq] at hq'; cases hq'
      exact ev q
    exact pure_case i hk hkv ⟨V, run _ _ _ e1 (fun _ => by simp [builtin, Builtin.max_, hx0]), e2⟩
  -- append
  · rename_i t t' x y hT hA
    obtain ⟨x0, y0, hx0, rfl, rfl⟩ : ∃ x0 y0, c.args = #[x0, y0] ∧ x = aval cx.A ρ x0 ∧ y = aval cx.A ρ y0 := by
      cases hc : c.args with
      | mk l => rw [hc] at hA; match l, hA with
        | [p, q], hA => simp at hA; exact ⟨p, q, rfl, hA.1.symm, hA.2.symm⟩
    have hT' : c.argTypes = #[t, t'] := by cases hc : c.argTypes with | mk l => rw [hc] at hT; simp at hT; rw [hT]
    split at hb
    · rename_i e he
      have ht : cx.P.underlying t = some (.slice e) := by unfold elemT at he; split at he <;> simp_all
      cases htt : (t != t') with
      | true =>
        simp only [htt, cond_true] at hb
        split at hb
        · rename_i sz by_ z hu hn hby hz
          cases hj : z.isJunk with
          | true => rw [hj] at hb; cases hb
          | false =>
            rw [hj, cond_false] at hb
            unfold bindVH at hb
            obtain ⟨⟨p, h'⟩, hv, hk⟩ := Option.bind_eq_some_iff.1 hb
            obtain ⟨V, w', G', e1, e2, e3, e4⟩ := aappendStr_sound (P := cx.P) (ty := o.type) i ht hu hn hby hz hj rfl hv (ev x0) (ev y0)
            exact mem_case hk hkv ⟨V, w', G', run _ _ _ e1 (fun _ => by simp [builtin, hx0, hT']), e2, e3, e4⟩
        · cases hb
      | false =>
        simp only [htt, cond_false] at hb
        have : t = t' := by simpa using htt
        subst this
        split at hb
        · rename_i sz by_ z hn hby hz
          cases hg : (sz == 0 || z.isJunk || z.cells.length != sz) with
          | true => simp only [hg, cond_true] at hb; cases hb
          | false =>
            simp only [hg, cond_false] at hb
            simp only [Bool.or_eq_false_iff, beq_eq_false_iff_ne, bne_eq_false_iff_eq] at hg
            obtain ⟨⟨h0, hj⟩, hl⟩ := hg
            unfold bindVH at hb
            obtain ⟨⟨p, h'⟩, hv, hk⟩ := Option.bind_eq_some_iff.1 hb
            cases hvec : cx.vec t with
            | false =>
              rw [hvec, cond_false] at hv
              cases htb : cx.tb with
              | true =>
                rw [htb, cond_true] at hv
                obtain ⟨V, w', G', e1, e2, e3, e4⟩ := aappendT_sound (P := cx.P) (ty := o.type) i ht hn hby hz hj hl h0 rfl hv (ev x0) (ev y0)
                exact mem_case hk hkv ⟨V, w', G', run _ _ _ e1 (fun _ => by simp [builtin, hx0, hT']), e2, e3, e4⟩
              | false =>
              rw [htb, cond_false] at hv
              obtain ⟨V, w', G', e1, e2, e3, e4⟩ := aappend_sound (P := cx.P) (ty := o.type) i ht hn hby hz hj hl h0 hv (ev x0) (ev y0)
              exact mem_case hk hkv ⟨V, w', G', run _ _ _ e1 (fun _ => by simp [builtin, hx0, hT']), e2, e3, e4⟩
            | true =>
              rw [hvec, cond_true] at hv
              obtain ⟨V, w', G', e1, e2, e3, e4⟩ := aappendV_sound (P := cx.P) (ty := o.type) i ht hn hby hz hj hl h0 hv (ev x0) (ev y0)
              exact mem_case hk hkv ⟨V, w', G', run _ _ _ e1 (fun _ => by simp [builtin, hx0, hT']), e2, e3, e4⟩
        · cases hb
    · cases hb
  -- copy
  · rename_i t t' x y hT hA
    obtain ⟨x0, y0, hx0, rfl, rfl⟩ : ∃ x0 y0, c.args = #[x0, y0] ∧ x = aval cx.A ρ x0 ∧ y = aval cx.A ρ y0 := by
      cases hc : c.args with
      | mk l => rw [hc] at hA; match l, hA with
        | [p, q], hA => simp at hA; exact ⟨p, q, rfl, hA.1.symm, hA.2.symm⟩
    have hT' : c.argTypes = #[t, t'] := by cases hc : c.argTypes with | mk l => rw [hc] at hT; simp at hT; rw [hT]
    split at hb
    · rename_i e he _
      have ht : cx.P.underlying t = some (.slice e) := by unfold elemT at he; split at he <;> simp_all
      split at hb
      · rename_i hn _
        unfold bindVH at hb
        obtain ⟨⟨p, h'⟩, hv, hk⟩ := Option.bind_eq_some_iff.1 hb
        obtain ⟨V, w', G', e1, e2, e3, e4⟩ := acopyS_sound (P := cx.P) (ty := o.type) (t2 := t') i ht hn hv (ev x0) (ev y0)
        exact mem_case hk hkv ⟨V, w', G', run _ _ _ e1 (fun _ => by simp [builtin, hx0, hT']), e2, e3, e4⟩
      · cases hb
    · cases hb
  -- delete
  · rename_i t t' x y hT hA
    obtain ⟨x0, y0, hx0, rfl, rfl⟩ : ∃ x0 y0, c.args = #[x0, y0] ∧ x = aval cx.A ρ x0 ∧ y = aval cx.A ρ y0 := by
      cases hc : c.args with
      | mk l => rw [hc] at hA; match l, hA with
        | [p, q], hA => simp at hA; exact ⟨p, q, rfl, hA.1.symm, hA.2.symm⟩
    have hT' : c.argTypes[0]? = some t := by cases hc : c.argTypes with | mk l => rw [hc] at hT; simp at hT; rw [hT]; rfl
    split at hb
    · rename_i kt et ht
      split at hb
      · rename_i d hd
        cases hf : akeyFor d (aval cx.A ρ y0) with
        | false => rw [hf] at hb; cases hb
        | true =>
          rw [hf] at hb
          simp only [cond_true] at hb
          obtain ⟨h1, hv, hk⟩ := Option.bind_eq_some_iff.1 hb
          obtain ⟨w', e1, e2, e3⟩ := amapDel_sound (P := cx.P) (ty := o.type) i ht hd hf hv (ev x0) (ev y0) hT'
          exact mem_case hk hkv ⟨_, w', G, run _ _ _ e1 (fun _ => by simp [builtin, hx0]), e2, e3, .tuple _ _ rfl (by simp)⟩
      · cases hb
    · cases hb
  -- clear
  · rename_i t x hT hA
    obtain ⟨x0, hx0, rfl⟩ : ∃ x0, c.args = #[x0] ∧ x = aval cx.A ρ x0 := by
      cases hc : c.args with
      | mk l => rw [hc] at hA; cases l with
        | nil => simp at hA
        | cons y r => simp at hA; exact ⟨y, by simp [hA.2], hA.1.symm⟩
    have hT' : c.argTypes[0]? = some t := by cases hc : c.argTypes with | mk l => rw [hc] at hT; simp at hT; rw [hT]; rfl
    split at hb
    · rename_i e ht
      split at hb
      · rename_i sz z hn hz
        cases hj : z.isJunk with
        | true => rw [hj] at hb; cases hb
        | false =>
          rw [hj] at hb
          simp only [cond_false] at hb
          obtain ⟨h1, hv, hk⟩ := Option.bind_eq_some_iff.1 hb
          obtain ⟨w', e1, e2, e3⟩ := aclear_sound (P := cx.P) (ty := o.type) i ht hz hj hv (ev x0) hT'
          exact mem_case hk hkv ⟨_, w', G, run _ _ _ e1 (fun _ => by simp [builtin, hx0]), e2, e3, .tuple _ _ rfl (by simp)⟩
      · cases hb
    · rename_i kt et ht
      obtain ⟨h1, hv, hk⟩ := Option.bind_eq_some_iff.1 hb
      obtain ⟨w', e1, e2, e3⟩ := aclearMap_sound (P := cx.P) (ty := o.type) i ht hv (ev x0) hT'
      exact mem_case hk hkv ⟨_, w', G, run _ _ _ e1 (fun _ => by simp [builtin, hx0]), e2, e3, .tuple _ _ rfl (by simp)⟩
    · cases hb
  · cases hb

theorem ameth_run {P : Program} {t f : Nat} {name : String} (hm : ameth P t name = some f) (v : Value) (w : World) : (method (P.types.size + Made.depth) t v name).run P w = .ok (f, v) w := by
  unfold ameth at hm
  split at hm
  · rename_i i hi
    split at hm
    · rename_i m hf
      cases hp : m.path.toList with
      | cons _ _ => rw [hp] at hm; simp at hm
      | nil =>
        rw [hp] at hm
        simp only [List.isEmpty_nil, cond_true] at hm
        split at hm
        · rename_i f' hfn
          split at hm
          · rename_i fs hu
            cases hm
            have hd : P.types.size + Made.depth = (P.types.size + 99) + 1 := rfl
            rw [hd]
            have hti : (typeInfo t).run P w = .ok i w := by simp [typeInfo, Sem.run_bind, Sem.run_pure, hi]
            unfold method
            simp only [Sem.run_bind, hti, Result.andThen_ok, hf]
            simp only [hp, follow, Sem.run_bind, Sem.run_pure, Result.andThen_ok, hfn, receiverAt, run_underlying hu, Place.get]
          · cases hm
        · cases hm
    · cases hm
  · cases hm
theorem evalOp_sound (hX : ExtOk cx.P cx.A) (hK : SoundK cx.P cx.A cx.K) (rsv : Option Nat) (hb : evalOp cx o rsv ρ h kv kp = some r) (i : Inv G h w) (gl : GlobOk cx.A G h w) (s : Slots J G h ρ a)
    (hkv : KvOk o kv r G h w a N) (hkp : KpOk kp r G h w a Q) : o.wp cx.P a w N Q := by
  have ev : ∀ x, RelV G h (aval cx.A ρ x) (a.eval x) := fun x => s.eval gl.cells x
  unfold evalOp evalOpV at hb
  simp only [] at hb
  split at hb
  -- move
  · rename_i x ho
    exact pure_case i hb hkv ⟨_, by simp [execOp, ho, Sem.run_pure], ev x⟩
  -- assign
  · rename_i x ho
    cases hn : nilConst x with
    | true =>
      simp only [hn, cond_true] at hb
      obtain ⟨G', i', x', hc, _⟩ := i.pushTok
      have hx : a.eval x = .slice none 0 0 := by
        unfold nilConst at hn
        split at hn
        · rfl
        · cases hn
      exact wp_val (by simp [execOp, ho, Sem.run_pure, hx]) (hkv _ _ G' w _ hb x' i' (pushTok_rel hc))
    | false =>
      simp only [hn, cond_false] at hb
      exact pure_case i hb hkv ⟨_, by simp [execOp, ho, Sem.run_pure], ev x⟩
  -- pick
  · rename_i c x y ho
    obtain ⟨v, hv, hk⟩ := Option.bind_eq_some_iff.1 hb
    obtain ⟨V, h1, h2⟩ := apick_sound (P := cx.P) (w := w) hv (ev c) (ev x) (ev y)
    exact pure_case i hk hkv ⟨V, by simp only [execOp, ho]; exact h1, h2⟩
  -- alloc
  · rename_i t ho
    split at hb
    · rename_i n z hn hz
      split at hb
      · unfold bindVH at hb
        obtain ⟨⟨p, h'⟩, hv, hk⟩ := Option.bind_eq_some_iff.1 hb
        obtain ⟨V, w', G', h1, h2, h3, h4⟩ := aallocB_sound (P := cx.P) i hz hv
        exact mem_case hk hkv ⟨V, w', G', by simp only [execOp, ho]; exact run_value h1, h2, h3, h4⟩
      · unfold bindVH at hb
        obtain ⟨⟨p, h'⟩, hv, hk⟩ := Option.bind_eq_some_iff.1 hb
        obtain ⟨V, w', G', h1, h2, h3, h4⟩ := aallocAt_sound (P := cx.P) i hz hv
        exact mem_case hk hkv ⟨V, w', G', by simp only [execOp, ho]; exact run_value h1, h2, h3, h4⟩
    · cases hb
  -- box
  · rename_i t x ho
    split at hb
    · rename_i n hn
      split at hb
      · unfold bindVH at hb
        obtain ⟨⟨p, h'⟩, hv, hk⟩ := Option.bind_eq_some_iff.1 hb
        obtain ⟨V, w', G', h1, h2, h3, h4⟩ := aboxB_sound (P := cx.P) (t := t) i hv (ev x)
        exact mem_case hk hkv ⟨V, w', G', by simp only [execOp, ho]; exact run_value h1, h2, h3, h4⟩
      · unfold bindVH at hb
        obtain ⟨⟨p, h'⟩, hv, hk⟩ := Option.bind_eq_some_iff.1 hb
        obtain ⟨V, w', G', h1, h2, h3, h4⟩ := aboxAt_sound (P := cx.P) (t := t) i hv (ev x)
        exact mem_case hk hkv ⟨V, w', G', by simp only [execOp, ho]; exact run_value h1, h2, h3, h4⟩
    · cases hb
  -- build
  · rename_i t parts ho
    split at hb
    · rename_i z fs hz ht
      split at hb
      · rename_i places hp
        cases hj : z.isJunk with
        | true => simp [hj] at hb
        | false =>
          simp only [hj, cond_false] at hb
          obtain ⟨v, hv, hk⟩ := Option.bind_eq_some_iff.1 hb
          obtain ⟨V, h1, h2⟩ := abuild_struct (P := cx.P) (G := G) (h := h) (w := w) ht hz hp ev hj hv
          exact pure_case i hk hkv ⟨V, by simp only [execOp, ho]; exact run_value h1, h2⟩
      · cases hb
    · rename_i z len e hz ht
      split at hb
      · rename_i n hn
        cases hj : z.isJunk with
        | true => simp [hj] at hb
        | false =>
          simp only [hj, cond_false] at hb
          obtain ⟨v, hv, hk⟩ := Option.bind_eq_some_iff.1 hb
          obtain ⟨V, h1, h2⟩ := abuild_array (P := cx.P) (G := G) (h := h) (w := w) ht hz hn ev hj hv
          exact pure_case i hk hkv ⟨V, by simp only [execOp, ho]; exact run_value h1, h2⟩
      · cases hb
    · cases hb
  -- buildSlice
  · rename_i t len parts ho
    split at hb
    · rename_i e he
      have ht : cx.P.underlying t = some (.slice e) := by unfold elemT at he; split at he <;> simp_all
      split at hb
      · rename_i n z hn hz
        cases hg : (n == 0 || z.isJunk || decide (len * n > 16777216)) with
        | true => simp only [hg, cond_true] at hb; cases hb
        | false =>
          simp only [hg, cond_false] at hb
          simp only [Bool.or_eq_false_iff, beq_eq_false_iff_ne, decide_eq_false_iff_not] at hg
          obtain ⟨⟨h0, hj⟩, hle⟩ := hg
          split at hb
          · unfold bindVH at hb
            obtain ⟨⟨p, h'⟩, hv, hk⟩ := Option.bind_eq_some_iff.1 hb
            cases hvl : cx.vlit t with
            | false =>
              rw [hvl, cond_false] at hv
              obtain ⟨V, w', G', h1, h2, h3, h4⟩ := abuildSlice_sound (P := cx.P) i ht hz hn h0 (by omega) ev hj hv
              exact mem_case hk hkv ⟨V, w', G', by simp only [execOp, ho]; exact run_value h1, h2, h3, h4⟩
            | true =>
              rw [hvl, cond_true] at hv
              obtain ⟨V, w', G', h1, h2, h3, h4⟩ := abuildSliceV_sound (P := cx.P) i ht hz hn h0 (by omega) ev hj hv
              exact mem_case hk hkv ⟨V, w', G', by simp only [execOp, ho]; exact run_value h1, h2, h3, h4⟩
          · unfold bindVH at hb
            obtain ⟨⟨p, h'⟩, hv, hk⟩ := Option.bind_eq_some_iff.1 hb
            obtain ⟨V, w', G', h1, h2, h3, h4⟩ := abuildSliceAt_sound (P := cx.P) i ht hz hn h0 (by omega) ev hj hv
            exact mem_case hk hkv ⟨V, w', G', by simp only [execOp, ho]; exact run_value h1, h2, h3, h4⟩
      · cases hb
    · cases hb
  -- load
  · rename_i t x ho
    split at hb
    · rename_i g n hg hn
      obtain ⟨v, hv, hk⟩ := Option.bind_eq_some_iff.1 hb
      obtain ⟨V, h1, h2⟩ := aloadB_sound (P := cx.P) hg hn i hv (ev x)
      cases hfr : cx.rb && cx.frl with
      | false =>
        rw [hfr, cond_false] at hk
        exact pure_case i hk hkv ⟨V, by simp only [execOp, ho]; exact run_value h1, h2⟩
      | true =>
        rw [hfr, cond_true] at hk
        unfold bindVH at hk
        obtain ⟨⟨y, h3⟩, hy, hk⟩ := Option.bind_eq_some_iff.1 hk
        obtain ⟨G1, i1, x1, r1⟩ := afreezeA_sound i hy h2
        exact mem_case hk hkv ⟨V, w, G1, by simp only [execOp, ho]; exact run_value h1, i1, x1, r1⟩
    · cases hb
  -- store
  · rename_i t p x ho
    split at hb
    · rename_i n hn
      cases hfz : cx.frz with
      | false =>
        rw [hfz, cond_false] at hb
        obtain ⟨h', hv, hk⟩ := Option.bind_eq_some_iff.1 hb
        obtain ⟨w', h1, h2, h3⟩ := astoreB_sound (P := cx.P) hn i hv (ev p) (ev x)
        exact wp_skip' (by simp only [execOp, ho]; exact run_unit h1) (hkv _ _ G w' _ hk h3 h2 .undef)
      | true =>
        rw [hfz, cond_true] at hb
        obtain ⟨⟨y, h1⟩, hy, hb⟩ := Option.bind_eq_some_iff.1 hb
        obtain ⟨h', hv, hk⟩ := Option.bind_eq_some_iff.1 hb
        obtain ⟨G1, i1, x1, r1⟩ := afreeze_sound i hy (ev x)
        obtain ⟨w', g1, g2, g3⟩ := astore_sound (P := cx.P) hn i1 hv ((ev p).mono x1.toMono) r1
        exact wp_skip' (by simp only [execOp, ho]; exact run_unit g1) (hkv _ _ G1 w' _ hk (x1.trans g3) g2 .undef)
    · cases hb
  -- nilCheck
  · rename_i x ho
    obtain ⟨v, hv, hk⟩ := Option.bind_eq_some_iff.1 hb
    have hx := ev x
    refine pure_case i hk hkv ⟨a.eval x, ?_, ?_⟩
    · unfold anilCheck at hv
      split at hv <;> simp only [Option.some.injEq, reduceCtorEq] at hv
      · rename_i he; rw [he] at hx; obtain ⟨h1, _⟩ := hx.ptr_inv; simp [execOp, ho, h1, Sem.run_pure]
      · rename_i he; rw [he] at hx; obtain ⟨_, h1, _⟩ := hx.vptr_inv; simp [execOp, ho, h1, Sem.run_pure]
      · rename_i he
        rw [he] at hx
        have := hx.pptr_inv
        generalize hX : a.eval x = X at this
        cases this
        simp [execOp, ho, hX, Sem.run_pure]
      · rename_i he; rw [he] at hx; obtain ⟨F, C, h1, _⟩ := hx.func_inv; simp [execOp, ho, h1, Sem.run_pure]
    · unfold anilCheck at hv
      split at hv <;> simp only [Option.some.injEq, reduceCtorEq] at hv
      all_goals (rename_i he; rw [he] at hx; rw [← hv]; exact hx)
  -- binOp
  · rename_i op t x y yt ho
    split at hb
    · rename_i fs ht
      split at hb
      · rename_i ks hks
        obtain ⟨b, hv, hk⟩ := Option.bind_eq_some_iff.1 hb
        have := (eqAgg_sound (P := cx.P) (w := w) ht hks x y hv (ev x) (ev y)).1
        exact pure_case i hk hkv ⟨_, by simp only [execOp, ho]; exact run_value this, .p _ _ (.bool _)⟩
      · cases hb
    · rename_i fs ht
      split at hb
      · rename_i ks hks
        obtain ⟨b, hv, hk⟩ := Option.bind_eq_some_iff.1 hb
        have := (eqAgg_sound (P := cx.P) (w := w) ht hks x y hv (ev x) (ev y)).2
        exact pure_case i hk hkv ⟨_, by simp only [execOp, ho]; exact run_value this, .p _ _ (.bool _)⟩
      · cases hb
    · rename_i ht
      obtain ⟨v, hv, hk⟩ := Option.bind_eq_some_iff.1 hb
      obtain ⟨V, h1, h2⟩ := abinB_sound (P := cx.P) (w := w) ht x y hv (ev x) (ev y)
      exact pure_case i hk hkv ⟨V, by simp only [execOp, ho]; exact run_value h1, h2⟩
    · obtain ⟨v, hv, hk⟩ := Option.bind_eq_some_iff.1 hb
      obtain ⟨V, h1, h2⟩ := abin_sound (P := cx.P) (w := w) t x y hv (ev x) (ev y)
      exact pure_case i hk hkv ⟨V, by simp only [execOp, ho]; exact run_value h1, h2⟩
    · obtain ⟨v, hv, hk⟩ := Option.bind_eq_some_iff.1 hb
      obtain ⟨V, h1, h2⟩ := abin_sound (P := cx.P) (w := w) t x y hv (ev x) (ev y)
      exact pure_case i hk hkv ⟨V, by simp only [execOp, ho]; exact run_value h1, h2⟩
    · cases hb
  -- unOp
  · rename_i op t x ho
    obtain ⟨v, hv, hk⟩ := Option.bind_eq_some_iff.1 hb
    obtain ⟨V, h1, h2⟩ := aun_sound (P := cx.P) (w := w) hv (ev x)
    exact pure_case i hk hkv ⟨V, by simp only [execOp, ho]; exact run_value h1, h2⟩
  -- convert
  · rename_i sT dT x ho
    split at hb
    · rename_i k0 k hs hd
      obtain ⟨v, hv, hk⟩ := Option.bind_eq_some_iff.1 hb
      obtain ⟨V, h1, h2⟩ := aconvInt_sound (P := cx.P) (w := w) hs hd hv (ev x)
      exact pure_case i hk hkv ⟨V, by simp only [execOp, ho]; exact run_value h1, h2⟩
    · rename_i e hs hd
      split at hb
      · rename_i hu
        obtain ⟨v, hv, hk⟩ := Option.bind_eq_some_iff.1 hb
        have hv : abytesH h (aval cx.A ρ x) = some v := by
          cases hrb : cx.rb with
          | true => rw [hrb] at hv; exact hv
          | false =>
            rw [hrb] at hv
            have hv : abytesStr (aval cx.A ρ x) = some v := hv
            unfold abytesH
            split
            · rename_i hx
              unfold abytesStr at hv
              rw [hx] at hv; cases hv
            · rename_i hx
              unfold abytesStr at hv
              rw [hx] at hv; cases hv
            · exact hv
        obtain ⟨V, h1, h2⟩ := abytesH_sound (P := cx.P) i hv (ev x)
        have hsl : ∃ q n c, a.eval x = Value.slice q n c := by
          have hx := ev x
          generalize aval cx.A ρ x = y at hv hx
          generalize a.eval x = Y at hx
          unfold abytesH at hv
          split at hv
          · obtain ⟨b, cap, rfl, _⟩ := hx.vslice_inv
            exact ⟨_, _, _, rfl⟩
          · obtain ⟨b, cap, rfl, _⟩ := hx.mslice_inv
            exact ⟨_, _, _, rfl⟩
          · unfold abytesStr at hv
            split at hv
            · have hp := hx.slice_inv
              cases hp <;> exact ⟨_, _, _, rfl⟩
            · cases hv
        obtain ⟨q, n, c, hq⟩ := hsl
        rw [hq] at h1
        exact pure_case i hk hkv ⟨V, by
          simp only [execOp, ho, hq]
          refine run_value ?_
          simp only [Go.convert, Sem.run_bind, run_underlying hs, run_underlying hd, run_underlying hu, Result.andThen_ok]
          exact h1, h2⟩
      · cases hb
    · cases hb
  -- makeMap
  · rename_i t ho
    obtain ⟨G', h1, h2, h3⟩ := i.newMap
    exact mem_case hb hkv ⟨.map (some w.heap.size), _, G', by simp only [execOp, ho]; exact run_value (run_makeMap t w), h1, h2, h3⟩
  -- makeSlice
  · rename_i t l c ho
    split at hb
    · rename_i e he
      have ht : cx.P.underlying t = some (.slice e) := by unfold elemT at he; split at he <;> simp_all
      split at hb
      · rename_i n by_ z hn hby hz
        cases hg : (n == 0 || z.isJunk || z.cells.length != n || !(z.cells.all AVal.cellOk) || !(sameOp l c)) with
        | true => simp only [hg, cond_true] at hb; cases hb
        | false =>
          simp only [hg, cond_false] at hb
          simp only [Bool.or_eq_false_iff, beq_eq_false_iff_ne, bne_eq_false_iff_eq, Bool.not_eq_false'] at hg
          obtain ⟨⟨⟨⟨h0, hj⟩, hl⟩, hall⟩, hso⟩ := hg
          unfold bindVH at hb
          obtain ⟨⟨p, h'⟩, hv, hk⟩ := Option.bind_eq_some_iff.1 hb
          obtain ⟨k, k', m, e1, e2, e3⟩ : ∃ k k' m, aval cx.A ρ l = .int k m ∧ a.eval l = .int k m ∧ a.eval c = .int k' m := by
            have hx := ev l
            have hm : ∃ k m, aval cx.A ρ l = .int k m := by
              cases hvm : cx.vmk <;> rw [hvm] at hv <;> simp only [cond_true, cond_false] at hv
              · unfold amakeSlice at hv
                split at hv
                · rename_i k m he; exact ⟨k, m, he⟩
                · cases hv
              · unfold amakeSliceV at hv
                split at hv
                · rename_i k m he; exact ⟨k, m, he⟩
                · cases hv
            obtain ⟨k, m, hm⟩ := hm
            rw [hm] at hx
            have hx := hx.int_inv
            unfold sameOp at hso
            split at hso
            · simp at hso; subst hso; exact ⟨k, k, m, hm, hx, hx⟩
            · rename_i k1 a1 k2 b1
              simp at hso; subst hso
              simp only [aval, ofConst, ofConst1, AVal.int.injEq] at hm
              obtain ⟨rfl, rfl⟩ := hm
              exact ⟨_, _, _, rfl, rfl, rfl⟩
            · cases hso
          obtain ⟨V, w', G', h1, h2, h3, h4⟩ : ∃ V w' G', (Instr.makeSlice t (a.eval l) (a.eval c)).run cx.P w = .ok V w' ∧ Inv G' h' w' ∧ Ext G h w G' h' w' ∧ RelV G' h' p V := by
            cases hvm : cx.vmk <;> rw [hvm] at hv <;> simp only [cond_true, cond_false] at hv
            · exact amakeSlice_sound (P := cx.P) i ht hn hby hz hj hl hall hv e1 e2 e3
            · exact amakeSliceV_sound (P := cx.P) i ht hn hby hz h0 hj hl hall hv e1 e2 e3
          exact mem_case hk hkv ⟨V, w', G', by simp only [execOp, ho]; exact run_value h1, h2, h3, h4⟩
      · cases hb
    · cases hb
  -- lookup
  · rename_i t m k ok ho
    split at hb
    · rename_i kt e ht
      split at hb
      · rename_i d z hd hz
        cases hf : akeyFor d (aval cx.A ρ k) with
        | false => simp only [hf, cond_false] at hb; cases hb
        | true =>
          simp only [hf, cond_true] at hb
          obtain ⟨v, hv, hk⟩ := Option.bind_eq_some_iff.1 hb
          obtain ⟨V, h1, h2⟩ := alookup_sound (P := cx.P) i ht hd hz hf hv (ev m) (ev k)
          exact pure_case i hk hkv ⟨V, by simp only [execOp, ho]; exact run_value h1, h2⟩
      · cases hb
    · cases hb
  -- mapUpdate
  · rename_i t m k x ho
    split at hb
    · rename_i kt e ht
      split at hb
      · rename_i d hd
        cases hf : akeyFor d (aval cx.A ρ k) with
        | false => simp only [hf, cond_false] at hb; cases hb
        | true =>
          simp only [hf, cond_true] at hb
          obtain ⟨h', hv, hk⟩ := Option.bind_eq_some_iff.1 hb
          obtain ⟨w', h1, h2, h3⟩ := amapSet_sound (P := cx.P) i ht hd hf hv (ev m) (ev k) (ev x)
          exact wp_skip' (by simp only [execOp, ho]; exact run_unit h1) (hkv _ _ G w' _ hk h3 h2 .undef)
      · cases hb
    · cases hb
  -- makeInterface
  · rename_i t x ho
    split at hb
    · cases hb
    · rename_i d hne hd
      refine pure_case i hb hkv ⟨.iface t (a.eval x), ?_, .iface _ _ _ (ev x)⟩
      have : (Instr.makeInterface t (a.eval x)).run cx.P w = .ok (.iface t (a.eval x)) w := by
        unfold Instr.makeInterface
        simp only [Sem.run_bind, run_underlying hd, Result.andThen_ok]
        cases d <;> first | (exact absurd rfl (hne _); done) | simp [Sem.run_pure]
      simp only [execOp, ho]; exact run_value this
    · cases hb
  -- makeFunc
  · rename_i f first cap ho
    refine pure_case i hb hkv ⟨.func (.func f) (first.map a.eval) (cap.map a.eval), by simp only [execOp, ho]; exact run_value (by simp only [Instr.makeFunc, Sem.run_pure]), .func f _ _ _ _ (by simp) (by simp) ?_ ?_⟩
    · intro j u hu
      simp only [List.getElem?_map, Option.map_eq_some_iff, Array.getElem?_toList] at hu
      obtain ⟨x, hx, rfl⟩ := hu
      have : (first.map a.eval).getD j undef = a.eval x := by simp [Array.getD_eq_getD_getElem?, hx]
      rw [this]; exact ev x
    · intro j u hu
      simp only [List.getElem?_map, Option.map_eq_some_iff, Array.getElem?_toList] at hu
      obtain ⟨x, hx, rfl⟩ := hu
      have : (cap.map a.eval).getD j undef = a.eval x := by simp [Array.getD_eq_getD_getElem?, hx]
      rw [this]; exact ev x
  -- slice
  · rename_i t x lo hi ho
    obtain ⟨l1, l2⟩ := optRel (G := G) (h := h) ev lo
    obtain ⟨h1, h2⟩ := optRel (G := G) (h := h) ev hi
    split at hb
    · rename_i ht
      obtain ⟨v, hv, hk⟩ := Option.bind_eq_some_iff.1 hb
      obtain ⟨V, e1, e2⟩ := asliceStr_sound (P := cx.P) (w := w) l1 l2 h1 h2 ht hv (ev x)
      exact pure_case i hk hkv ⟨V, by simp only [execOp, ho]; exact run_value e1, e2⟩
    · rename_i e ht
      split at hb
      · rename_i n hn
        obtain ⟨v, hv, hk⟩ := Option.bind_eq_some_iff.1 hb
        obtain ⟨V, e1, e2⟩ := asliceSl_sound (P := cx.P) (w := w) l1 l2 h1 h2 ht hn hv (ev x)
        exact pure_case i hk hkv ⟨V, by simp only [execOp, ho]; exact run_value e1, e2⟩
      · cases hb
    · rename_i len e ht
      split at hb
      · rename_i n hn
        obtain ⟨v, hv, hk⟩ := Option.bind_eq_some_iff.1 hb
        obtain ⟨V, e1, e2⟩ := asliceArr_sound (P := cx.P) (w := w) l1 l2 h1 h2 ht hn hv (ev x)
        exact pure_case i hk hkv ⟨V, by simp only [execOp, ho]; exact run_value e1, e2⟩
      · cases hb
    · cases hb
  -- fieldAddr
  · rename_i t x f ho
    split at hb
    · rename_i fs ht
      split at hb
      · rename_i fd hf
        split at hb
        · rename_i n hn
          obtain ⟨v, hv, hk⟩ := Option.bind_eq_some_iff.1 hb
          obtain ⟨V, e1, e2⟩ := afieldAt_sound (P := cx.P) (w := w) ht hf hn hv (ev x)
          exact pure_case i hk hkv ⟨V, by simp only [execOp, ho]; exact run_value e1, e2⟩
        · cases hb
      · cases hb
    · cases hb
  -- field
  · rename_i t x f ho
    split at hb
    · rename_i fs ht
      split at hb
      · rename_i fd hf
        split at hb
        · rename_i g n hg hn
          obtain ⟨v, hv, hk⟩ := Option.bind_eq_some_iff.1 hb
          obtain ⟨V, e1, e2⟩ := afield_sound (P := cx.P) (w := w) (ft := fd.type) ht hf hg hn hv (ev x)
          exact pure_case i hk hkv ⟨V, by simp only [execOp, ho]; exact run_value e1, e2⟩
        · cases hb
      · cases hb
    · cases hb
  -- indexAddr
  · rename_i t x ix ho
    split at hb
    · rename_i e ht
      split at hb
      · rename_i n hn
        obtain ⟨v, hv, hk⟩ := Option.bind_eq_some_iff.1 hb
        obtain ⟨V, e1, e2⟩ := aindexSl_sound (P := cx.P) (w := w) ht hn hv (ev x) (ev ix)
        exact pure_case i hk hkv ⟨V, by simp only [execOp, ho]; exact run_value e1, e2⟩
      · cases hb
    · rename_i len e ht
      split at hb
      · rename_i n hn
        obtain ⟨v, hv, hk⟩ := Option.bind_eq_some_iff.1 hb
        obtain ⟨V, e1, e2⟩ := aindexAt_sound (P := cx.P) (w := w) ht hn hv (ev x) (ev ix)
        exact pure_case i hk hkv ⟨V, by simp only [execOp, ho]; exact run_value e1, e2⟩
      · cases hb
    · cases hb
  -- index
  · rename_i t x ix ho
    split at hb
    · rename_i ht
      obtain ⟨v, hv, hk⟩ := Option.bind_eq_some_iff.1 hb
      obtain ⟨V, e1, e2⟩ := aindexStr_sound (P := cx.P) (w := w) ht hv (ev x) (ev ix)
      exact pure_case i hk hkv ⟨V, by simp only [execOp, ho]; exact run_value e1, e2⟩
    · rename_i len e ht
      split at hb
      · rename_i g n hg hn
        obtain ⟨v, hv, hk⟩ := Option.bind_eq_some_iff.1 hb
        obtain ⟨V, e1, e2⟩ := aindexArr_sound (P := cx.P) (w := w) ht hg hn hv (ev x) (ev ix)
        exact pure_case i hk hkv ⟨V, by simp only [execOp, ho]; exact run_value e1, e2⟩
      · cases hb
    · cases hb
  -- extract
  · rename_i x ix ho
    obtain ⟨v, hv, hk⟩ := Option.bind_eq_some_iff.1 hb
    obtain ⟨V, e1, e2⟩ := aextract_sound (P := cx.P) (w := w) hv (ev x)
    exact pure_case i hk hkv ⟨V, by simp only [execOp, ho]; exact run_value e1, e2⟩
  -- typeAssert
  · rename_i x xt t ho
    split at hb
    · cases hb
    · rename_i td hni ht
      split at hb
      · rename_i z hz
        obtain ⟨v, hv, hk⟩ := Option.bind_eq_some_iff.1 hb
        obtain ⟨Z, hz1, hz2⟩ := run_zeroValue' (P := cx.P) (w := w) (G := G) (h := h) hz
        have hx := ev x
        have run : ∀ X, a.eval x = X → (execOp a.eval o).run cx.P w = (do pure (Next.value (← Instr.typeAssert X xt t true)) : Sem Next).run cx.P w := by
          intro X hX; simp only [execOp, ho, hX]
        unfold atypeAssert at hv
        split at hv
        · rename_i t' u hu
          simp only [Option.some.injEq] at hv
          rw [hu] at hx
          obtain ⟨W, h1, h2⟩ := hx.iface_inv
          have run1 : (Instr.typeAssert (.iface t' W) xt t true).run cx.P w = if t' = t then .ok (.tuple #[W, .bool true]) w else .ok (.tuple #[Z, .bool false]) w := by
            cases td <;> first | exact (hni _ rfl).elim | (by_cases htt : t' = t <;> simp [Instr.typeAssert, run_underlying ht, Sem.run_pure, htt, hz1])
          by_cases htt : t' = t
          · have e : (t' == t) = true := by simpa using htt
            rw [e] at hv
            simp only [cond_true] at hv
            subst hv
            refine pure_case i hk hkv ⟨.tuple #[W, .bool true], by rw [run _ h1]; exact run_value (by rw [run1, if_pos htt]), .tuple _ _ rfl fun j c hc => ?_⟩
            match j with
            | 0 => simp at hc; subst hc; exact h2
            | 1 => simp at hc; subst hc; exact .p _ _ (.bool true)
            | j + 2 => simp at hc
          · have e : (t' == t) = false := by simpa using htt
            rw [e] at hv
            simp only [cond_false] at hv
            subst hv
            refine pure_case i hk hkv ⟨.tuple #[Z, .bool false], by rw [run _ h1]; exact run_value (by rw [run1, if_neg htt]), .tuple _ _ rfl fun j c hc => ?_⟩
            match j with
            | 0 => simp at hc; subst hc; exact hz2
            | 1 => simp at hc; subst hc; exact .p _ _ (.bool false)
            | j + 2 => simp at hc
        · rename_i hu
          simp only [Option.some.injEq] at hv
          rw [hu] at hx
          have h1 : a.eval x = .nilIface := by
            generalize a.eval x = X at hx
            cases hx with
            | p _ _ hp => cases hp; rfl
          have run1 : (Instr.typeAssert .nilIface xt t true).run cx.P w = .ok (.tuple #[Z, .bool false]) w := by
            cases td <;> first | exact (hni _ rfl).elim | simp [Instr.typeAssert, run_underlying ht, Sem.run_pure, hz1]
          subst hv
          refine pure_case i hk hkv ⟨.tuple #[Z, .bool false], by rw [run _ h1]; exact run_value run1, .tuple _ _ rfl fun j c hc => ?_⟩
          match j with
          | 0 => simp at hc; subst hc; exact hz2
          | 1 => simp at hc; subst hc; exact .p _ _ (.bool false)
          | j + 2 => simp at hc
        · cases hv
      · cases hb
    · cases hb
  -- panic
  · rename_i x ho
    unfold apanic at hb
    split at hb
    · rename_i t v hv
      have hx := ev x
      rw [hv] at hx
      obtain ⟨W, h1, h2⟩ := hx.iface_inv
      have hrun : (execOp a.eval o).run cx.P w = .halt (.panic (.iface t W)) w := by
        simp only [execOp, ho, h1, Instr.panic]
        rfl
      unfold Oper.wp
      rw [hrun]
      exact hkp _ _ G w _ hb (Ext.refl G h w) i (.iface _ _ _ h2)
    · cases hb
  -- call
  · rename_i c ho
    split at hb
    · rename_i b hcal
      exact builtin_sound ho hcal hb i ev hkv
    · rename_i f hcal
      obtain ⟨⟨g, fi, ca⟩, hv, hk⟩ := Option.bind_eq_some_iff.1 hb
      have hf := ev f
      unfold acallee at hv
      split at hv <;> simp only [Option.some.injEq, Prod.mk.injEq, reduceCtorEq] at hv
      rename_i g' fi' ca' hfv
      obtain ⟨rfl, rfl, rfl⟩ := hv
      rw [hfv] at hf
      obtain ⟨F, C, hF, hlf, hlc, hrf, hrc⟩ := hf.func_inv
      simp only [] at hk
      unfold bindRes at hk
      obtain ⟨⟨res, h'⟩, hcall, hk⟩ := Option.bind_eq_some_iff.1 hk
      -- the arguments
      have hargs0 : RelVs G h (fi' ++ c.args.toList.map (aval cx.A ρ) ++ ca') (F ++ c.args.map a.eval ++ C) := by
        refine ⟨by simp [hlf, hlc], fun j u hu => ?_⟩
        rw [Array.getD_eq_getD_getElem?]
        by_cases h1 : j < fi'.length
        · rw [List.append_assoc, List.getElem?_append_left h1] at hu
          rw [Array.append_assoc, Array.getElem?_append_left (by omega)]
          have := hrf j u hu
          rwa [Array.getD_eq_getD_getElem?] at this
        · by_cases h2 : j < fi'.length + c.args.size
          · rw [List.append_assoc, List.getElem?_append_right (by omega), List.getElem?_append_left (by simp; omega)] at hu
            rw [Array.append_assoc, Array.getElem?_append_right (by omega), Array.getElem?_append_left (by simp; omega)]
            simp only [List.getElem?_map, Option.map_eq_some_iff, Array.getElem?_toList] at hu
            obtain ⟨x, hx, rfl⟩ := hu
            rw [← hlf]
            simp only [Array.getElem?_map, hx, Option.map_some, Option.getD_some]
            exact ev x
          · rw [List.getElem?_append_right (by simp; omega)] at hu
            rw [Array.getElem?_append_right (by simp; omega)]
            have := hrc _ u hu
            rw [Array.getD_eq_getD_getElem?] at this
            simpa [hlf] using this
      have hargs : RelVs G h (argsFor cx.A g' (fi' ++ c.args.toList.map (aval cx.A ρ) ++ ca')) (F ++ c.args.map a.eval ++ C) := by
        unfold argsFor
        cases cx.A.grow g' with
        | true => exact hargs0
        | false =>
          refine ⟨by simpa using hargs0.1, fun j u hu => ?_⟩
          simp only [cond_false, List.getElem?_map, Option.map_eq_some_iff] at hu
          obtain ⟨x, hx, rfl⟩ := hu
          exact untok_rel (hargs0.2 j x hx)
      cases hext : cx.A.ext g' with
      | some ek =>
      simp only [callE, hext] at hcall
      obtain ⟨v, V, hr, hrun, hV⟩ := extC_sound hX hext hcall hargs.1 hargs.2 (w := w)
      cases hr
      have hrun' : (execOp a.eval o).run cx.P w = .ok (.value V) w := by
        simp only [execOp, ho, resolve, hcal, hF, Deferred.ofValue, Sem.run_bind, Sem.run_pure, Result.andThen_ok, invoke]
        exact hrun
      exact wp_val hrun' (hkv v h G w V hk (Ext.refl G h w) i hV)
      | none =>
      simp only [callE, hext] at hcall
      obtain ⟨henter, hcalls⟩ := hK _ _ _ _ _ hcall G w _ i gl hargs
      have hrun : (execOp a.eval o).run cx.P w = .ok (.enter g' (F ++ c.args.map a.eval ++ C)) w := by
        simp only [execOp, ho, resolve, hcal, hF, Deferred.ofValue, Sem.run_bind, Sem.run_pure, Result.andThen_ok, invoke]
        exact henter w
      unfold Oper.wp
      rw [hrun]
      refine Calls.mono hcalls fun e w' hpost => ?_
      obtain ⟨G', x', i', hres⟩ := hpost
      cases res with
      | ret v =>
        obtain ⟨V, rfl, hV⟩ := hres
        exact hkv v h' G' w' V hk x' i' hV
      | pan v =>
        obtain ⟨V, rfl, hV⟩ := hres
        exact hkp v h' G' w' V hk x' i' hV
    · rename_i f name hcal
      obtain ⟨⟨g', w0⟩, hv, hk⟩ := Option.bind_eq_some_iff.1 hb
      have hf := ev f
      unfold ainvoke at hv
      split at hv <;> simp only [Option.map_eq_some_iff, Prod.mk.injEq, reduceCtorEq] at hv
      rename_i t w1 hfv
      obtain ⟨g2, hm, rfl, rfl⟩ := hv
      rw [hfv] at hf
      obtain ⟨W, hF, hW⟩ := hf.iface_inv
      simp only [] at hk
      unfold bindRes at hk
      obtain ⟨⟨res, h'⟩, hcall, hk⟩ := Option.bind_eq_some_iff.1 hk
      have hargs0 : RelVs G h (w1 :: c.args.toList.map (aval cx.A ρ)) (#[W] ++ c.args.map a.eval) := by
        refine ⟨by simp; omega, fun j u hu => ?_⟩
        cases j with
        | zero =>
          simp only [List.getElem?_cons_zero, Option.some.injEq] at hu
          subst hu
          have e0 : (#[W] ++ c.args.map a.eval)[0]? = some W := by rw [Array.getElem?_append_left (by simp)]; rfl
          rw [Array.getD_eq_getD_getElem?, e0]
          exact hW
        | succ j =>
          simp only [List.getElem?_cons_succ, List.getElem?_map, Option.map_eq_some_iff, Array.getElem?_toList] at hu
          obtain ⟨x, hx, rfl⟩ := hu
          rw [Array.getD_eq_getD_getElem?, Array.getElem?_append_right (by simp)]
          simp only [Array.size_singleton, Nat.add_sub_cancel, Array.getElem?_map, hx, Option.map_some, Option.getD_some]
          exact ev x
      have hargs : RelVs G h (argsFor cx.A g2 (w1 :: c.args.toList.map (aval cx.A ρ))) (#[W] ++ c.args.map a.eval) := by
        unfold argsFor
        cases cx.A.grow g2 with
        | true => exact hargs0
        | false =>
          refine ⟨by have := hargs0.1; simpa using this, fun j u hu => ?_⟩
          simp only [cond_false, List.getElem?_map, Option.map_eq_some_iff] at hu
          obtain ⟨x, hx, rfl⟩ := hu
          exact untok_rel (hargs0.2 j x hx)
      have hrunE : (execOp a.eval o).run cx.P w = (callFunc g2 (#[W] ++ c.args.map a.eval)).run cx.P w := by
        have h0 : (#[Value.iface t W] ++ c.args.map a.eval)[0]? = some (Value.iface t W) := by rw [Array.getElem?_append_left (by simp)]; rfl
        have h1 : (#[Value.iface t W] ++ c.args.map a.eval).extract 1 (#[Value.iface t W] ++ c.args.map a.eval).size = c.args.map a.eval := by
          apply Array.toList_inj.1
          rw [Array.toList_extract]
          have : c.args.size = (List.map a.eval c.args.toList).length := by simp
          simp [List.extract, this, -List.length_map, List.take_length]
        simp only [execOp, ho, resolve, hcal, Sem.run_bind, Sem.run_pure, Result.andThen_ok, invoke, hF]
        rw [h0, h1]
        simp only [callMethod, Sem.run_bind, run_program, Result.andThen_ok, ameth_run hm]
      cases hext : cx.A.ext g2 with
      | some ek =>
        simp only [callE, hext] at hcall
        obtain ⟨v, V, hr, hrun, hV⟩ := extC_sound hX hext hcall hargs.1 hargs.2 (w := w)
        cases hr
        exact wp_val (hrunE.trans hrun) (hkv v h G w V hk (Ext.refl G h w) i hV)
      | none =>
        simp only [callE, hext] at hcall
        obtain ⟨henter, hcalls⟩ := hK _ _ _ _ _ hcall G w _ i gl hargs
        have hrun := hrunE.trans (henter w)
        unfold Oper.wp
        rw [hrun]
        refine Calls.mono hcalls fun e w' hpost => ?_
        obtain ⟨G', x', i', hres⟩ := hpost
        cases res with
        | ret v =>
          obtain ⟨V, rfl, hV⟩ := hres
          exact hkv v h' G' w' V hk x' i' hV
        | pan v =>
          obtain ⟨V, rfl, hV⟩ := hres
          exact hkp v h' G' w' V hk x' i' hV
  · cases hb

end
end
noncomputable section
open Go Go.RowKit

section
variable {cx : Cx} {o : Oper} {ρ : List AVal} {h : Heap} {kv kp : AVal → Heap → Option R} {r : R} {ids : List Nat} {ops : List Oper}

theorem evalOp_nat {rsv : Option Nat} : evalOp cx o rsv ρ h kv kp = (evalOp cx o rsv ρ h kv0 kp0).bind (fin0 kv kp) := by
  unfold evalOp
  generalize aval cx.A ρ = v
  have B : ∀ (e : Option AVal), (e.bind fun w => kv w h) = (e.bind fun w => kv0 w h).bind (fin0 kv kp) := by intro e; cases e <;> rfl
  have BV : ∀ (e : Option (AVal × Heap)), bindVH e kv = (bindVH e kv0).bind (fin0 kv kp) := by intro e; cases e <;> rfl
  have BR : ∀ (e : Option (Res × Heap)), bindRes e kv kp = (bindRes e kv0 kp0).bind (fin0 kv kp) := by
    intro e
    cases e with
    | none => rfl
    | some e => obtain ⟨r, h⟩ := e; cases r <;> rfl
  have BH : ∀ (e : Option Heap), (e.bind fun h' => kv (.tuple []) h') = (e.bind fun h' => kv0 (.tuple []) h').bind (fin0 kv kp) := by intro e; cases e <;> rfl
  have BB : ∀ (e : Option Bool) (f : Bool → AVal), (e.bind fun b => kv (f b) h) = (e.bind fun b => kv0 (f b) h).bind (fin0 kv kp) := by intro e f; cases e <;> rfl
  have C : ∀ (b : Bool) (x y : Option R), x = y.bind (fin0 kv kp) → (bif b then none else x) = (bif b then none else y).bind (fin0 kv kp) := by intro b x y hxy; cases b <;> simp [hxy]
  have D : ∀ (b : Bool) (x y : Option R), x = y.bind (fin0 kv kp) → (bif b then x else none) = (bif b then y else none).bind (fin0 kv kp) := by intro b x y hxy; cases b <;> simp [hxy]
  have EE : ∀ (b : Bool) (x y x0 y0 : Option R), x = x0.bind (fin0 kv kp) → y = y0.bind (fin0 kv kp) → (bif b then x else y) = (bif b then x0 else y0).bind (fin0 kv kp) := by intro b x y x0 y0 h1 h2; cases b <;> simp [h1, h2]
  have bu : ∀ (b : Builtin) (ts : List TypeId) (args : List AVal), builtinOp cx b ts args h kv = (builtinOp cx b ts args h kv0).bind (fin0 kv kp) := by
    intro b ts args
    unfold builtinOp
    repeat' split
    all_goals first
      | rfl
      | exact B _
      | exact BV _
      | exact BH _
      | exact D _ _ _ (BH _)
      | exact C _ _ _ (BH _)
      | (refine EE _ _ _ _ _ ?_ ?_ <;> first | rfl | exact C _ _ _ (BV _))
      | (refine C _ _ _ ?_; (repeat' split) <;> first | rfl | (refine C _ _ _ ?_; exact BV _))
  have PA : ∀ (x : AVal), apanic x h kp = (apanic x h kp0).bind (fin0 kv kp) := by intro x; cases x <;> rfl
  unfold evalOpV
  cases ho : o.op with
  | panic x => exact PA _
  | call c =>
    simp only []
    cases c.callee with
    | builtin b => exact bu _ _ _
    | value f =>
      simp only []
      cases acallee (v f) with
      | none => rfl
      | some g => exact BR _
    | invoke x name =>
      simp only []
      cases ainvoke cx.P name (v x) with
      | none => rfl
      | some g => exact BR _
  | assign x =>
    simp only []
    cases hn : nilConst x with
    | true => rfl
    | false => rfl
  | load t x =>
    simp only []
    split
    · rename_i g n hg hn
      cases aloadB cx.tb g n h (v x) with
      | none => rfl
      | some w =>
        simp only [Option.bind_some]
        cases cx.rb && cx.frl with
        | false => rfl
        | true => exact BV _
    · rfl
  | store t p x =>
    simp only []
    split
    · cases cx.frz with
      | false => exact BH _
      | true =>
        simp only [cond_true]
        cases afreeze h (v x) with
        | none => rfl
        | some y => exact BH _
    · rfl
  | makeFunc b f c => cases b <;> rfl
  | makeMap t r => cases r <;> rfl
  | typeAssert x xt t ok =>
    cases ok with
    | false => rfl
    | true =>
      simp only []
      repeat' split
      all_goals first
        | rfl
        | exact B _
  | slice t x lo hi mx =>
    cases mx with
    | some _ => rfl
    | none =>
      simp only []
      repeat' split
      all_goals first
        | rfl
        | exact B _
  | _ =>
    simp only []
    repeat' split
    all_goals first
      | rfl
      | exact B _
      | exact BV _
      | exact BH _
      | exact BB _ _
      | (refine C _ _ _ ?_; first | exact B _ | exact BV _ | (split <;> exact BV _))
      | exact D _ _ _ (B _)
      | exact D _ _ _ (BH _)


theorem chk_bind {f : R → Option R} {x : Option R} {h h' : Heap} : ∀ {ids : List Nat}, (chk ids h h' x).bind f = chk ids h h' (x.bind f)
  | [] => rfl
  | id :: r => by
    unfold chk
    split
    · exact chk_bind
    · rfl
theorem chk_some {r : R} {x : Option R} {h h' : Heap} : ∀ {ids : List Nat}, chk ids h h' x = some r ↔ (∀ id ∈ ids, ∀ b, h[id]? = some b → h'[id]? = some b) ∧ x = some r
  | [] => by simp [chk]
  | id :: l => by
    unfold chk
    split
    · rename_i hc
      rw [chk_some]
      constructor
      · intro ⟨a, b⟩
        refine ⟨fun i hi => ?_, b⟩
        rcases List.mem_cons.1 hi with rfl | hi
        · exact hc
        · exact a i hi
      · intro ⟨a, b⟩
        exact ⟨fun i hi => a i (List.mem_cons_of_mem _ hi), b⟩
    · rename_i hc
      constructor
      · intro e; cases e
      · intro ⟨a, b⟩
        exact absurd (a id (List.mem_cons_self ..)) hc
theorem chk_nat {ids : List Nat} {h : Heap} {kv kp : AVal → Heap → Option R} (r : R) :
    fin0 (fun v h' => chk ids h h' (kv v h')) kp r = (fin0 (fun v h' => chk ids h h' (kv0 v h')) kp0 r).bind (fin0 kv kp) := by
  obtain ⟨e, l, h⟩ := r
  cases e with
  | normal =>
    match l with
    | [] => rfl
    | [v] => exact (chk_bind (x := kv0 v h) (f := fin0 kv kp)).symm
    | _ :: _ :: _ => rfl
  | _ => rfl
theorem evalLocked_nat : evalLocked cx o ids ρ h kv kp = (evalLocked cx o ids ρ h kv0 kp0).bind (fin0 kv kp) := by
  unfold evalLocked
  cases cx.ck with
  | true =>
    simp only [cond_true]
    rw [evalOp_nat (kv := fun v h' => chk ids h h' (kv v h')), evalOp_nat (kv := fun v h' => chk ids h h' (kv0 v h')), Option.bind_assoc]
    refine congrArg (Option.bind _) ?_
    funext r
    exact chk_nat r
  | false =>
  simp only [cond_false]
  rw [evalOp_nat (kv := fun v h' => kv v (unhide ids h h')), evalOp_nat (kv := fun v h' => kv0 v (unhide ids h h')), Option.bind_assoc]
  refine congrArg (Option.bind _) ?_
  funext r
  obtain ⟨e, l, h⟩ := r
  cases e with
  | normal =>
    match l with
    | [] => rfl
    | [v] => rfl
    | _ :: _ :: _ => rfl
  | _ => rfl

/-- The same, with the continuation told twice. -/
def evalItemC (cx : Cx) (ops : List Oper) (o : Oper) (ids : List Nat) (ρ : List AVal) (h : Heap) (kv : AVal → Heap → Option R) (kp : AVal → Heap → Option R) : Option R :=
  match o.guard with
  | none => evalLocked cx o ids ρ h kv kp
  | some (j, want) => match (ops[j]?).bind (·.dst) with
    | some d => match ρ.getD d .junk with
      | .bool g => bif want then (bif g then evalLocked cx o ids ρ h kv kp else kv (.tuple []) h) else (bif g then kv (.tuple []) h else evalLocked cx o ids ρ h kv kp)
      | .tuple [] => kv (.tuple []) h
      | _ => none
    | none => none

theorem evalItem_eq : evalItem cx ops o ids ρ h kv kp = evalItemC cx ops o ids ρ h kv kp := by
  unfold evalItem evalItemC
  cases o.guard with
  | none => rfl
  | some jw =>
    obtain ⟨j, want⟩ := jw
    simp only []
    cases (ops[j]?).bind (·.dst) with
    | none => rfl
    | some d =>
      dsimp only
      generalize ρ.getD d .junk = x
      cases x with
      | bool g => cases want <;> cases g <;> first | rfl | exact evalLocked_nat.symm
      | tuple vs => cases vs <;> rfl
      | _ => rfl

end
end
section
open Go Go.RowKit

section
variable {cx : Cx} {o : Oper} {ρ ρ' : List AVal} {h h' : Heap} {kv kp : AVal → Heap → Option R} {r : R} {ids : List Nat} {ops : List Oper}

theorem mem_opTmps {t : Tmp} : t ∈ opTmps o ↔ Operand.tmp t ∈ o.op.operands := by
  unfold opTmps
  simp only [List.mem_filterMap, Array.mem_toList_iff]
  constructor
  · rintro ⟨x, hx, he⟩
    cases x <;> simp at he
    subst he; exact hx
  · intro hx; exact ⟨_, hx, rfl⟩

theorem aval_agree {A : Ann} (hag : ∀ t ∈ opTmps o, ρ'.getD t .junk = ρ.getD t .junk) {x : Operand} (hx : x ∈ o.op.operands) : aval A ρ' x = aval A ρ x := by
  cases x with
  | tmp t => exact hag t (mem_opTmps.2 hx)
  | _ => rfl

/-- An operation looks at its operands alone. -/
theorem evalOp_congr {rsv : Option Nat} (hag : ∀ t ∈ opTmps o, ρ'.getD t .junk = ρ.getD t .junk) : evalOp cx o rsv ρ' h kv kp = evalOp cx o rsv ρ h kv kp := by
  have ev : ∀ x ∈ o.op.operands, aval cx.A ρ' x = aval cx.A ρ x := fun x hx => aval_agree hag hx
  unfold evalOp
  generalize aval cx.A ρ' = v' at *
  generalize aval cx.A ρ = v at *
  clear hag
  have mapP : ∀ (parts : Array (Nat × Operand)), (∀ p ∈ parts, p.2 ∈ o.op.operands) → (parts.toList.map fun p => (p.1, v' p.2)) = parts.toList.map fun p => (p.1, v p.2) := by
    intro parts hp
    refine List.map_congr_left fun p hm => ?_
    rw [ev p.2 (hp p (by simpa using hm))]
  have mapA : ∀ (xs : Array Operand), (∀ x ∈ xs, x ∈ o.op.operands) → xs.toList.map v' = xs.toList.map v := by
    intro xs hp
    exact List.map_congr_left fun p hm => ev p (hp p (by simpa using hm))
  unfold evalOpV
  cases ho : o.op with
  | call c =>
    simp only [ho, Op.operands, Call.operands] at ev mapA
    cases hc : c.callee with
    | builtin b => simp only [hc] at ev mapA ⊢; rw [mapA c.args (by simp)]
    | value f => simp only [hc] at ev mapA ⊢; rw [mapA c.args (by intro x hx; simp [hx]), ev f (by simp)]
    | invoke f name => simp only [hc] at ev mapA ⊢; rw [mapA c.args (by intro x hx; simp [hx]), ev f (by simp)]
  | build t parts => simp only [ho, Op.operands] at mapP ⊢; rw [mapP parts (by intro p hp; simp; exact ⟨_, hp⟩)]
  | buildSlice t len parts => simp only [ho, Op.operands] at mapP ⊢; rw [mapP parts (by intro p hp; simp; exact ⟨_, hp⟩)]
  | slice t x lo hi mx =>
    have e1 := ev x (by simp [ho, Op.operands])
    have e2 : lo.map v' = lo.map v := by cases lo with | none => rfl | some l => simp [ev l (by simp [ho, Op.operands])]
    have e3 : hi.map v' = hi.map v := by cases hi with | none => rfl | some l => simp [ev l (by simp [ho, Op.operands])]
    cases mx with
    | none => simp only [e1, e2, e3]
    | some m => rfl
  | makeMap t hint => cases hint <;> rfl
  | typeAssert x xt t ok =>
    cases ok with
    | false => rfl
    | true => simp only [ho, Op.operands] at ev ⊢; rw [ev x (by simp)]
  | makeFunc b first cap =>
    simp only [ho, Op.operands] at mapA
    cases b <;> first | rfl | simp only [mapA cap (by intro x hx; simp [hx]), mapA first (by intro x hx; simp [hx])]
  | _ => simp only [ho, Op.operands] at ev ⊢ <;> simp_all

def isBlk (h : Heap) (id : Nat) : Prop := (∃ cs, h[id]? = some (.cells cs)) ∨ (∃ es, h[id]? = some (.map es)) ∨ (∃ tot sz cs, h[id]? = some (.vec tot sz cs)) ∨ ∃ t cs, h[id]? = some (.tcells t cs)
def readId (cx : Cx) (o : Oper) (ρ : List AVal) : Option Nat := (isRead o).bind fun x => addrId (aval cx.A ρ x)

theorem aload_at {g : Bool} {n : Nat} {x v : AVal} (hv : aload g n h x = some v) (h2 : Heap) (ha : ∀ id, addrId x = some id → isBlk h id → h2[id]? = h[id]?) : aload g n h2 x = some v := by
  cases x with
  | pptr cs => exact hv
  | ptr id off =>
    simp only [aload] at hv ⊢
    have : getBlk h2 id = getBlk h id := by
      unfold getBlk
      cases hb : h[id]? with
      | none => simp [getBlk, hb] at hv
      | some bl => cases bl with
        | cells cs => rw [ha id rfl (.inl ⟨cs, hb⟩), hb]
        | _ => simp [getBlk, hb] at hv
    rw [this]; exact hv
  | vptr id tot off =>
    simp only [aload] at hv ⊢
    have : getVec h2 id tot = getVec h id tot := by
      unfold getVec
      cases hb : h[id]? with
      | none => simp [getVec, hb] at hv
      | some bl => cases bl with
        | vec t s cs => rw [ha id rfl (.inr (.inr (.inl ⟨t, s, cs, hb⟩))), hb]
        | _ => simp [getVec, hb] at hv
    rw [this]; exact hv
  | _ => simp [aload] at hv

theorem aloadB_at {tb g : Bool} {n : Nat} {x v : AVal} (hv : aloadB tb g n h x = some v) (h2 : Heap) (ha : ∀ id, addrId x = some id → isBlk h id → h2[id]? = h[id]?) : aloadB tb g n h2 x = some v := by
  cases tb with
  | false => exact aload_at hv h2 ha
  | true =>
    simp only [aloadB, cond_true] at hv ⊢
    cases x with
    | ptr id off =>
      simp only [aloadT] at hv ⊢
      cases hg : getT h id with
      | some x0 =>
        have hb : h[id]? = some (.tcells x0.1 x0.2) := by
          unfold getT at hg
          split at hg <;> simp_all
          subst hg; exact ⟨rfl, rfl⟩
        have : getT h2 id = getT h id := by unfold getT; rw [ha id rfl (.inr (.inr (.inr ⟨_, _, hb⟩)))]
        rw [this, hg]
        rw [hg] at hv
        exact hv
      | none =>
        rw [hg] at hv
        simp only [] at hv
        have hbk : isBlk h id := by
          simp only [aload] at hv
          cases hgb : getBlk h id with
          | none => simp [hgb] at hv
          | some cs =>
            unfold getBlk at hgb
            split at hgb
            · rename_i cs' hc; exact .inl ⟨_, hc⟩
            · cases hgb
        have : getT h2 id = none := by
          unfold getT at hg ⊢
          rw [ha id rfl hbk]; exact hg
        rw [this]
        exact aload_at hv h2 ha
    | _ => simp only [aloadT] at hv ⊢; exact aload_at hv h2 ha

/-- An operation that is no effect: a value, and the heap as it was. -/
theorem light_op (hrb : cx.rb = false) (he : isEff o = false) (hb : evalOp cx o none ρ h kv kp = some r) :
    ∃ v, kv v h = some r ∧ ∀ (h2 : Heap) (kv2 kp2 : AVal → Heap → Option R), (∀ id, readId cx o ρ = some id → isBlk h id → h2[id]? = h[id]?) → evalOp cx o none ρ h2 kv2 kp2 = kv2 v h2 := by
  have key : ∀ {e : Option AVal}, (e.bind fun w => kv w h) = some r → (∀ h2 kv2 kp2, evalOp cx o none ρ h2 kv2 kp2 = e.bind fun w => kv2 w h2) →
      ∃ v, kv v h = some r ∧ ∀ (h2 : Heap) (kv2 kp2 : AVal → Heap → Option R), (∀ id, readId cx o ρ = some id → isBlk h id → h2[id]? = h[id]?) → evalOp cx o none ρ h2 kv2 kp2 = kv2 v h2 := by
    intro e h1 h2
    obtain ⟨v, hv, hk⟩ := Option.bind_eq_some_iff.1 h1
    exact ⟨v, hk, fun a b c _ => by rw [h2, hv]; rfl⟩
  have key0 : ∀ {v : AVal}, kv v h = some r → (∀ h2 kv2 kp2, evalOp cx o none ρ h2 kv2 kp2 = kv2 v h2) →
      ∃ v, kv v h = some r ∧ ∀ (h2 : Heap) (kv2 kp2 : AVal → Heap → Option R), (∀ id, readId cx o ρ = some id → isBlk h id → h2[id]? = h[id]?) → evalOp cx o none ρ h2 kv2 kp2 = kv2 v h2 :=
    fun h1 h2 => ⟨_, h1, fun a b c _ => h2 a b c⟩
  unfold evalOp evalOpV at hb
  cases ho : o.op with
  | load t a =>
    simp only [ho] at hb
    split at hb
    · rename_i g n hg hn
      obtain ⟨v, hv, hk⟩ := Option.bind_eq_some_iff.1 hb
      rw [hrb, Bool.false_and, cond_false] at hk
      refine ⟨v, hk, fun h2 kv2 kp2 ha => ?_⟩
      have := aloadB_at hv h2 fun id hid hblk => ha id (by simp [readId, isRead, ho, hid]) hblk
      simp only [evalOp, evalOpV, ho, hg, hn, this, Option.bind_some, hrb, Bool.false_and, cond_false]
    · cases hb
  | lookup t m k ok =>
    simp only [ho] at hb
    split at hb
    · rename_i kt e hu
      split at hb
      · rename_i d z hd hz
        cases hf : akeyFor d (aval cx.A ρ k) with
        | false => rw [hf] at hb; cases hb
        | true =>
          rw [hf] at hb
          obtain ⟨v, hv, hk⟩ := Option.bind_eq_some_iff.1 hb
          refine ⟨v, hk, fun h2 kv2 kp2 ha => ?_⟩
          have : alookup z ok h2 (aval cx.A ρ m) (aval cx.A ρ k) = some v := by
            rw [← hv]
            unfold alookup
            have hg : getMap h2 (aval cx.A ρ m) = getMap h (aval cx.A ρ m) := by
              generalize hm : aval cx.A ρ m = x at hv
              cases x with
              | map id =>
                simp only [getMap]
                cases hb : h[id]? with
                | none => simp [alookup, getMap, hb] at hv
                | some bl => cases bl with
                  | map es => rw [ha id (by simp [readId, isRead, ho, hm, addrId]) (.inr (.inl ⟨es, hb⟩)), hb]
                  | _ => simp [alookup, getMap, hb] at hv
              | _ => rfl
            rw [hg]
          simp only [evalOp, evalOpV, ho, hu, hd, hz, hf, cond_true, this, Option.bind_some]
      · cases hb
    · cases hb
  | call c =>
    simp only [isEff, ho] at he
    simp only [ho] at hb
    cases hc : c.callee with
    | builtin b =>
      simp only [hc] at hb he
      unfold builtinOp at hb
      split at hb
      · rename_i t x hT hA
        split at hb
        · rename_i ht; exact key0 hb fun _ _ _ => by simp only [evalOp, evalOpV, ho, hc, builtinOp, hT, hA, ht]
        · rename_i ht; exact key hb fun _ _ _ => by simp only [evalOp, evalOpV, ho, hc, builtinOp, hT, hA, ht]
        · rename_i ht; exact key hb fun _ _ _ => by simp only [evalOp, evalOpV, ho, hc, builtinOp, hT, hA, ht]
        · cases hb
      · rename_i hA; exact key hb fun _ _ _ => by simp only [evalOp, evalOpV, ho, hc, builtinOp, hA]
      · rename_i hA; exact key hb fun _ _ _ => by simp only [evalOp, evalOpV, ho, hc, builtinOp, hA]
      · rename_i hA; exact key hb fun _ _ _ => by simp only [evalOp, evalOpV, ho, hc, builtinOp, hA]
      · rename_i hA; exact key hb fun _ _ _ => by simp only [evalOp, evalOpV, ho, hc, builtinOp, hA]
      · simp at he
      · simp at he
      · simp at he
      · simp at he
      · cases hb
    | value f => simp [hc] at he
    | _ => simp [hc] at he
  | binOp op t x y yt =>
    simp only [ho] at hb
    split at hb
    · rename_i fs hu
      split at hb
      · rename_i ks hks
        obtain ⟨v, hv, hk⟩ := Option.bind_eq_some_iff.1 hb
        exact ⟨_, hk, fun a b c _ => by simp [evalOp, evalOpV, ho, hu, hks, hv]⟩
      · cases hb
    · rename_i fs hu
      split at hb
      · rename_i ks hks
        obtain ⟨v, hv, hk⟩ := Option.bind_eq_some_iff.1 hb
        exact ⟨_, hk, fun a b c _ => by simp [evalOp, evalOpV, ho, hu, hks, hv]⟩
      · cases hb
    all_goals first
      | exact key hb fun _ _ _ => by simp [evalOp, evalOpV, *]
      | cases hb
  | assign x =>
    simp only [ho, isEff] at he hb
    simp only [he, cond_false] at hb
    exact key0 hb fun _ _ _ => by simp only [evalOp, evalOpV, ho, he, cond_false]
  | makeInterface t x =>
    simp only [ho] at hb
    split at hb
    · cases hb
    · exact key0 hb fun _ _ _ => by simp [evalOp, evalOpV, *]
    · cases hb
  | makeFunc b first cap =>
    cases b <;> simp only [ho] at hb <;> first
      | exact key0 hb fun _ _ _ => by simp only [evalOp, evalOpV, ho]
      | cases hb
  | slice t x lo hi mx =>
    cases mx with
    | some m => simp only [ho] at hb; cases hb
    | none =>
      simp only [ho] at hb
      split at hb
      · exact key hb fun _ _ _ => by simp [evalOp, evalOpV, *]
      · split at hb
        · exact key hb fun _ _ _ => by simp [evalOp, evalOpV, *]
        · cases hb
      · split at hb
        · exact key hb fun _ _ _ => by simp [evalOp, evalOpV, *]
        · cases hb
      · cases hb
  | typeAssert x xt t ok =>
    cases ok with
    | false => simp only [ho] at hb; cases hb
    | true =>
      simp only [ho] at hb
      split at hb
      · cases hb
      · split at hb
        · exact key hb fun _ _ _ => by simp only [evalOp, evalOpV, *]
        · cases hb
      · cases hb
  | move x =>
    simp only [ho] at hb
    exact key0 hb fun _ _ _ => by simp only [evalOp, evalOpV, ho]
  | fieldAddr t x f =>
    simp only [ho] at hb
    split at hb
    · split at hb
      · split at hb
        · exact key hb fun _ _ _ => by simp [evalOp, evalOpV, *]
        · cases hb
      · cases hb
    · cases hb
  | field t x f =>
    simp only [ho] at hb
    split at hb
    · split at hb
      · split at hb
        · exact key hb fun _ _ _ => by simp [evalOp, evalOpV, *]
        · cases hb
      · cases hb
    · cases hb
  | indexAddr t x i =>
    simp only [ho] at hb
    split at hb
    · split at hb
      · exact key hb fun _ _ _ => by simp [evalOp, evalOpV, *]
      · cases hb
    · split at hb
      · exact key hb fun _ _ _ => by simp [evalOp, evalOpV, *]
      · cases hb
    · cases hb
  | index t x i =>
    simp only [ho] at hb
    split at hb
    · exact key hb fun _ _ _ => by simp [evalOp, evalOpV, *]
    · split at hb
      · exact key hb fun _ _ _ => by simp [evalOp, evalOpV, *]
      · cases hb
    · cases hb
  | convert t t' x =>
    simp only [ho] at hb
    split at hb
    · exact key hb fun _ _ _ => by simp [evalOp, evalOpV, *]
    · split at hb
      · exact key hb fun _ _ _ => by simp [evalOp, evalOpV, *]
      · cases hb
    · cases hb
  | build t parts =>
    simp only [ho] at hb
    have kb : ∀ {j : Bool} {e : Option AVal}, (bif j then none else e.bind fun w => kv w h) = some r → (∀ h2 kv2 kp2, evalOp cx o none ρ h2 kv2 kp2 = bif j then none else e.bind fun w => kv2 w h2) →
        ∃ v, kv v h = some r ∧ ∀ (h2 : Heap) (kv2 kp2 : AVal → Heap → Option R), (∀ id, readId cx o ρ = some id → isBlk h id → h2[id]? = h[id]?) → evalOp cx o none ρ h2 kv2 kp2 = kv2 v h2 := by
      intro j e h1 h2
      cases j with
      | true => cases h1
      | false => exact key h1 h2
    split at hb
    · split at hb
      · exact kb hb fun _ _ _ => by simp only [evalOp, evalOpV, *]
      · cases hb
    · split at hb
      · exact kb hb fun _ _ _ => by simp only [evalOp, evalOpV, *]
      · cases hb
    · cases hb
  | _ =>
    simp only [ho, isEff] at he
    simp only [ho] at hb
    first
      | exact key hb fun _ _ _ => by simp only [evalOp, evalOpV, ho]
      | cases hb
      | (simp at he; done)

/-! ### Items -/

theorem mem_looksL {t : Tmp} : t ∈ looksL ops o ↔ t ∈ opTmps o ∨ gTmp ops o = some t := by simp [looksL, eq_comm]

theorem evalLocked_congr (hag : ∀ t ∈ opTmps o, ρ'.getD t .junk = ρ.getD t .junk) : evalLocked cx o ids ρ' h kv kp = evalLocked cx o ids ρ h kv kp := by
  unfold evalLocked
  cases cx.ck with
  | true => exact evalOp_congr hag
  | false => exact evalOp_congr hag

theorem evalItem_congr (hag : ∀ t ∈ looksL ops o, ρ'.getD t .junk = ρ.getD t .junk) : evalItem cx ops o ids ρ' h kv kp = evalItem cx ops o ids ρ h kv kp := by
  have h1 : evalLocked cx o ids ρ' h kv kp = evalLocked cx o ids ρ h kv kp := evalLocked_congr fun t ht => hag t (mem_looksL.2 (.inl ht))
  simp only [evalItem_eq]
  unfold evalItemC
  cases hg : o.guard with
  | none => exact h1
  | some jw =>
    obtain ⟨j, want⟩ := jw
    simp only []
    cases hd : (ops[j]?).bind (·.dst) with
    | none => rfl
    | some d =>
      simp only []
      rw [hag d (mem_looksL.2 (.inr (by simp [gTmp, hg, hd]))), h1]

theorem light_item (hrb : cx.rb = false) (he : isEff o = false) (hb : evalItem cx ops o [] ρ h kv kp = some r) :
    ∃ v, kv v h = some r ∧ ∀ (h2 : Heap) (kv2 kp2 : AVal → Heap → Option R), (∀ id, readId cx o ρ = some id → isBlk h id → h2[id]? = h[id]?) → evalItem cx ops o [] ρ h2 kv2 kp2 = kv2 v h2 := by
  have key : ∀ (hb : evalLocked cx o [] ρ h kv kp = some r),
      ∃ v, kv v h = some r ∧ ∀ (h2 : Heap) (kv2 kp2 : AVal → Heap → Option R), (∀ id, readId cx o ρ = some id → isBlk h id → h2[id]? = h[id]?) → evalLocked cx o [] ρ h2 kv2 kp2 = kv2 v h2 := by
    intro hb
    unfold evalLocked at hb ⊢
    cases hc : cx.ck with
    | true =>
      rw [hc] at hb
      obtain ⟨v, h1, h2⟩ := light_op hrb he hb
      exact ⟨v, h1, fun h3 kv2 kp2 ha => h2 h3 _ _ ha⟩
    | false =>
      rw [hc] at hb
      obtain ⟨v, h1, h2⟩ := light_op hrb he hb
      exact ⟨v, h1, fun h3 kv2 kp2 ha => h2 h3 _ _ ha⟩
  simp only [evalItem_eq] at hb ⊢
  unfold evalItemC at hb ⊢
  cases hg : o.guard with
  | none => simp only [hg] at hb ⊢; exact key hb
  | some jw =>
    obtain ⟨j, want⟩ := jw
    simp only [hg] at hb ⊢
    cases hd : (ops[j]?).bind (·.dst) with
    | none => simp only [hd] at hb; cases hb
    | some d =>
      simp only [hd] at hb ⊢
      generalize ρ.getD d .junk = x at hb ⊢
      split at hb
      · rename_i g
        cases want <;> cases g <;> simp only [cond_true, cond_false] at hb ⊢
        · exact key hb
        · exact ⟨_, hb, fun _ _ _ _ => rfl⟩
        · exact ⟨_, hb, fun _ _ _ _ => rfl⟩
        · exact key hb
      · exact ⟨_, hb, fun _ _ _ _ => rfl⟩
      · cases hb

/-! ### Putting -/

theorem getD_putSlot {dst : Option Tmp} {v : AVal} {t : Tmp} (hne : ∀ d, dst = some d → d ≠ t) : (putSlot ρ dst v).getD t .junk = ρ.getD t .junk := by
  cases dst with
  | none => rfl
  | some d => simp [putSlot, List.getD_eq_getElem?_getD, List.getElem?_set, hne d rfl]

theorem putSlot_comm {x y : Option Tmp} {u v : AVal} (hne : ∀ d, x = some d → y ≠ some d) : putSlot (putSlot ρ x u) y v = putSlot (putSlot ρ y v) x u := by
  cases x with
  | none => rfl
  | some d => cases y with
    | none => rfl
    | some e => exact List.set_comm _ _ (fun he => hne d rfl (by rw [he]))

theorem offL_spec {d : Option Tmp} {ts : List Tmp} (hd : offL d ts = true) : ∀ t ∈ ts, ∀ e, d = some e → e ≠ t := by
  rintro t ht e rfl rfl
  simp [offL] at hd
  exact hd ht

theorem apartL_spec {x y : Oper} (ha : apartL ops x y = true) :
    (∀ t ∈ looksL ops y, ∀ d, x.dst = some d → d ≠ t) ∧ (∀ t ∈ looksL ops x, ∀ d, y.dst = some d → d ≠ t) ∧ (∀ d, x.dst = some d → y.dst ≠ some d) := by
  simp only [apartL, Bool.and_eq_true] at ha
  refine ⟨offL_spec ha.1.1, offL_spec ha.1.2, fun d hd he => ?_⟩
  exact offL_spec ha.2 d (by simp [he]) d hd rfl

/-! ### New blocks at kept places, and calls that see nothing of the region's blocks -/

theorem anewAt_at {id n : Nat} {v : AVal} {x : AVal × Heap} (hx : anewAt id n h v = some x) : ∃ b, h[id]? = some .free ∧ x = (.ptr id 0, h.set id b) ∧ ∀ h2 : Heap, h2[id]? = some .free → anewAt id n h2 v = some (.ptr id 0, h2.set id b) := by
  unfold anewAt at hx
  simp only [] at hx
  split at hx
  · rename_i hf
    split at hx
    · rename_i hc
      cases hx
      refine ⟨_, hf, rfl, fun h2 h3 => ?_⟩
      unfold anewAt
      simp only [h3]
      rw [if_pos hc]
    · cases hx
  · cases hx
theorem abuildSliceAt_at {id len sz : Nat} {zero : List AVal} {parts : List (Nat × AVal)} {x : AVal × Heap} (hx : abuildSliceAt id len sz zero parts h = some x) :
    ∃ b, h[id]? = some .free ∧ x = (x.1, h.set id b) ∧ ∀ h2 : Heap, h2[id]? = some .free → abuildSliceAt id len sz zero parts h2 = some (x.1, h2.set id b) := by
  unfold abuildSliceAt at hx
  split at hx
  · rename_i rows hf hr
    cases hx
    refine ⟨_, hf, rfl, fun h2 h3 => ?_⟩
    unfold abuildSliceAt
    simp only [h3, hr]
  · cases hx

theorem float_op {id : Nat} (he : isFloatOp o = true) (hb : evalOp cx o (some id) ρ h kv kp = some r) :
    ∃ v b, h[id]? = some .free ∧ kv v (h.set id b) = some r ∧ ∀ (h2 : Heap) (kv2 kp2 : AVal → Heap → Option R), h2[id]? = some .free → evalOp cx o (some id) ρ h2 kv2 kp2 = kv2 v (h2.set id b) := by
  have K1 : ∀ {n : Nat} {v : AVal}, bindVH (anewAt id n h v) kv = some r → ∃ u b, h[id]? = some .free ∧ kv u (h.set id b) = some r ∧ ∀ (h2 : Heap) (kv2 : AVal → Heap → Option R), h2[id]? = some .free → bindVH (anewAt id n h2 v) kv2 = kv2 u (h2.set id b) := by
    intro n v hv
    unfold bindVH at hv
    obtain ⟨x, hx, hk⟩ := Option.bind_eq_some_iff.1 hv
    obtain ⟨b, h1, rfl, h3⟩ := anewAt_at hx
    exact ⟨_, b, h1, hk, fun h2 kv2 hf => by rw [h3 h2 hf]; rfl⟩
  have K2 : ∀ {len sz : Nat} {zero : List AVal} {parts : List (Nat × AVal)}, bindVH (abuildSliceAt id len sz zero parts h) kv = some r →
      ∃ u b, h[id]? = some .free ∧ kv u (h.set id b) = some r ∧ ∀ (h2 : Heap) (kv2 : AVal → Heap → Option R), h2[id]? = some .free → bindVH (abuildSliceAt id len sz zero parts h2) kv2 = kv2 u (h2.set id b) := by
    intro len sz zero parts hv
    unfold bindVH at hv
    obtain ⟨x, hx, hk⟩ := Option.bind_eq_some_iff.1 hv
    obtain ⟨b, h1, h2, h3⟩ := abuildSliceAt_at hx
    refine ⟨x.1, b, h1, ?_, fun h2 kv2 hf => by rw [h3 h2 hf]; rfl⟩
    rw [h2] at hk; exact hk
  unfold isFloatOp at he
  simp only [Bool.and_eq_true] at he
  have he := he.2
  unfold evalOp evalOpV at hb ⊢
  split at he
  · rename_i t ho
    simp only [ho] at hb ⊢
    split at hb
    · rename_i n z hn hz
      obtain ⟨u, b, e1, e2, e3⟩ := K1 hb
      refine ⟨u, b, e1, e2, fun h2 kv2 kp2 hf => ?_⟩
      exact e3 h2 kv2 hf
    · cases hb
  · rename_i t x ho
    simp only [ho] at hb ⊢
    split at hb
    · rename_i n hn
      obtain ⟨u, b, e1, e2, e3⟩ := K1 hb
      refine ⟨u, b, e1, e2, fun h2 kv2 kp2 hf => ?_⟩
      exact e3 h2 kv2 hf
    · cases hb
  · rename_i t len parts ho
    simp only [ho] at hb ⊢
    split at hb
    · rename_i e hel
      split at hb
      · rename_i n z hn hz
        cases hj : (n == 0 || z.isJunk || decide (len * n > 16777216)) with
        | true => rw [hj] at hb; cases hb
        | false =>
          rw [hj] at hb
          obtain ⟨u, b, e1, e2, e3⟩ := K2 hb
          refine ⟨u, b, e1, e2, fun h2 kv2 kp2 hf => ?_⟩
          exact e3 h2 kv2 hf
      · cases hb
    · cases hb
  · cases he

theorem float_eff (he : isFloatOp o = true) : isEff o = true := by
  unfold isFloatOp at he
  simp only [Bool.and_eq_true] at he
  have he := he.2
  split at he
  · rename_i ho; simp [isEff, ho]
  · rename_i ho; simp [isEff, ho]
  · rename_i ho; simp [isEff, ho]
  · cases he
theorem call_eff (he : isCallOp o = true) : isEff o = true := by
  unfold isCallOp at he
  simp only [Bool.and_eq_true] at he
  have he := he.2
  split at he
  · rename_i c ho
    simp only [isEff, ho]
    cases hc : c.callee with
    | value f => rfl
    | _ => simp [hc] at he
  · cases he

theorem hid_op {m : Nat} (hb : evalHid cx o m ids ρ h kv = some r) :
    ∃ v t, t.length = m ∧ kv v (t ++ h.drop m) = some r ∧ ∀ (h2 : Heap) (kv2 : AVal → Heap → Option R), h2.take m = h.take m → evalHid cx o m ids ρ h2 kv2 = kv2 v (t ++ h2.drop m) := by
  unfold evalHid at hb ⊢
  cases hs : (h.take m).all (blkShut m) with
  | false => rw [hs] at hb; cases hb
  | true =>
    rw [hs] at hb
    simp only [cond_true] at hb
    obtain ⟨r0, h1, h2⟩ := Option.bind_eq_some_iff.1 hb
    unfold hidK at h2
    split at h2
    · rename_i v t
      cases hl : t.length == m with
      | false => rw [hl] at h2; cases h2
      | true =>
        rw [hl] at h2
        refine ⟨v, t, by simpa using hl, h2, fun h3 kv2 he => ?_⟩
        rw [he, hs, h1]
        simp only [cond_true, Option.bind_some, hidK, hl]
    · cases h2

theorem evalItemF_congr {m : Nat} {it : Item} (hag : ∀ t ∈ looksL ops it.o, ρ'.getD t .junk = ρ.getD t .junk) : evalItemF cx ops m it ids ρ' h kv kp = evalItemF cx ops m it ids ρ h kv kp := by
  have hop : ∀ t ∈ opTmps it.o, ρ'.getD t .junk = ρ.getD t .junk := fun t ht => hag t (mem_looksL.2 (.inl ht))
  have hsh : ∀ t ∈ opTmps it.o, (ρ'.map (shutOr m)).getD t .junk = (ρ.map (shutOr m)).getD t .junk := by
    intro t ht
    have h0 : ∀ l : List AVal, (l.map (shutOr m)).getD t .junk = shutOr m (l.getD t .junk) := by
      intro l
      rw [List.getD_eq_getElem?_getD, List.getD_eq_getElem?_getD, List.getElem?_map]
      cases l[t]? <;> rfl
    rw [h0, h0, hop t ht]
  unfold evalItemF
  cases it.rsv with
  | some j => simp only []; rw [evalOp_congr hop]
  | none =>
    simp only []
    rw [evalItem_congr hag]
    cases it.hid with
    | false => rfl
    | true =>
      simp only [cond_true, evalHid]
      rw [evalLocked_congr hsh]

/-! ### A ready item goes ahead -/

/-- What the heap after an item keeps of the heap ahead of it. -/
def Keep (it : Item) (m : Nat) (ids : List Nat) (h h' : Heap) : Prop :=
  (isEff it.o = false → h' = h) ∧ (∀ id ∈ ids, isBlk h id → h'[id]? = h[id]?) ∧
  (∀ j, it.rsv = some j → ∃ b, h[m + j]? = some .free ∧ h' = h.set (m + j) b) ∧
  (it.rsv = none → it.hid = true → ∃ t, t.length = m ∧ h' = t ++ h.drop m)

theorem seenAt_congr (hag : ∀ t ∈ opTmps o, ρ'.getD t .junk = ρ.getD t .junk) : seenAt cx.A o ρ' = seenAt cx.A o ρ := by
  unfold seenAt
  cases hr : isRead o with
  | none => rfl
  | some x =>
    refine aval_agree hag ?_
    unfold isRead at hr
    split at hr
    · rename_i ho; cases hr; simp [ho, Op.operands]
    · rename_i ho; cases hr; simp [ho, Op.operands]
    · cases hr

theorem readId_congr (hag : ∀ t ∈ opTmps o, ρ'.getD t .junk = ρ.getD t .junk) : readId cx o ρ' = readId cx o ρ := by
  have := seenAt_congr (cx := cx) hag
  unfold readId seenAt at *
  cases hr : isRead o with
  | none => rfl
  | some x => simp only [hr] at this; simp [this]

theorem notBlk {id : Nat} (hf : h[id]? = some .free) : ¬ isBlk h id := by
  rintro (⟨_, h1⟩ | ⟨_, h1⟩ | ⟨_, _, _, h1⟩ | ⟨_, _, h1⟩) <;> rw [hf] at h1 <;> cases h1

/-- An item that looks at no block: on any heap. -/
theorem noread_item (hrb : cx.rb = false) (he : isEff o = false) (hr : isRead o = none) (hb : evalItem cx ops o [] ρ h kv kp = some r) :
    ∃ v, kv v h = some r ∧ ∀ (h2 : Heap) (kv2 kp2 : AVal → Heap → Option R), evalItem cx ops o [] ρ h2 kv2 kp2 = kv2 v h2 := by
  obtain ⟨v, h1, h2⟩ := light_item hrb he hb
  exact ⟨v, h1, fun h3 kv2 kp2 => h2 h3 kv2 kp2 fun id hid => by simp [readId, hr] at hid⟩

theorem tr_run (hrb : cx.rb = false) {m : Nat} {it : Item} {T : Heap → Heap}
    (hT : (it.rsv ≠ none) ∨ (it.rsv = none ∧ it.hid = true ∧ (T h).take m = h.take m ∧ ∀ t : Heap, t.length = m → T (t ++ h.drop m) = t ++ (T h).drop m) ∨ (it.rsv = none ∧ it.hid = false ∧ isEff it.o = false ∧ isRead it.o = none))
    (hlocks : isEff it.o = false → ids = [])
    (hset : ∀ j, it.rsv = some j → (T h)[m + j]? = h[m + j]? ∧ ∀ b, T (h.set (m + j) b) = (T h).set (m + j) b)
    (hb : evalItemF cx ops m it ids ρ (T h) kv kp = some r) : evalItemF cx ops m it ids ρ h (fun v h' => kv v (T h')) kp = some r := by
  unfold evalItemF at hb ⊢
  cases hr : it.rsv with
  | some j =>
    simp only [hr] at hb ⊢
    cases hf : isFloatOp it.o with
    | false => rw [hf] at hb; cases hb
    | true =>
      rw [hf] at hb
      simp only [cond_true] at hb ⊢
      obtain ⟨v, b, h1, h2, h3⟩ := float_op hf hb
      obtain ⟨h4, h5⟩ := hset j hr
      rw [h3 h _ _ (h4 ▸ h1), h5]
      exact h2
  | none =>
    simp only [hr] at hb ⊢
    rcases hT with hT | ⟨_, hh, ht, hd⟩ | ⟨_, hh, he, hrd⟩
    · exact absurd hr hT
    · rw [hh] at hb ⊢
      simp only [cond_true] at hb ⊢
      cases hf : isCallOp it.o with
      | false => rw [hf] at hb; cases hb
      | true =>
        rw [hf] at hb
        simp only [cond_true] at hb ⊢
        obtain ⟨v, t, h1, h2, h3⟩ := hid_op hb
        rw [h3 h _ ht.symm, hd t h1]
        exact h2
    · rw [hh] at hb ⊢
      simp only [cond_false] at hb ⊢
      rw [hlocks he] at hb ⊢
      obtain ⟨v, h1, h2⟩ := noread_item hrb he hrd hb
      rw [h2]
      exact h1

theorem move (hrb : cx.rb = false) {m : Nat} {k : List AVal → Heap → Option R} (it : Item) (post : List Item) (hil : isEff it.o = false → it.locks = []) (hie : it.rsv ≠ none ∨ it.hid = true → isEff it.o = true) : ∀ (pre : List Item) (seen ρ : List AVal) (h : Heap),
    (∀ p ∈ pre, indep ops p it = true ∧ p.i ≠ it.i ∧ p.i < seen.length) → (pre.map (·.i)).Nodup →
    evalItems cx ops m (pre ++ it :: post) seen ρ h k kp = some r →
    ∃ ids kv, evalItemF cx ops m it ids ρ h kv kp = some r ∧ (∀ j ∈ it.locks, (∀ p ∈ pre, p.i ≠ j) → ∀ id, addrId (seen.getD j .junk) = some id → id ∈ ids) ∧ (isEff it.o = false → ids = []) ∧
      ∀ v h', Keep it m ids h h' → kv v h' = some r → evalItems cx ops m (pre ++ post) (seen.set it.i (seenAt cx.A it.o ρ)) (putSlot ρ it.o.dst v) h' k kp = some r := by
  intro pre
  induction pre with
  | nil =>
    intro seen ρ h _ _ hb
    simp only [List.nil_append, evalItems, forceL_eq] at hb
    refine ⟨_, _, hb, fun j hj _ id hid => ?_, fun he => by simp [lockIds, hil he], fun v h' _ hk => hk⟩
    exact List.mem_filterMap.2 ⟨j, hj, hid⟩
  | cons p pre ih =>
    intro seen ρ h hpre hnd hb
    obtain ⟨hind, hne, hlt⟩ := hpre p (by simp)
    have hpl : p.rsv ≠ none ∨ p.locks = [] := by
      cases hr : p.rsv with
      | some j => exact .inl (by simp)
      | none =>
        refine .inr ?_
        cases hir : it.rsv <;> cases hh : p.hid <;> simp [indep, hr, hir, hh] at hind
        · exact hind.2.1.2
        · exact hind.2.1
        · exact hind.2.2
        · exact hind.2
    have hap : apartL ops p.o it.o = true := by simp only [indep, Bool.and_eq_true] at hind; exact hind.1
    have hind2 := hind
    simp only [indep, hap, Bool.true_and] at hind2
    obtain ⟨ha1, ha2, ha3⟩ := apartL_spec hap
    simp only [List.map_cons, List.nodup_cons] at hnd
    have agI : ∀ (vp : AVal), ∀ t ∈ looksL ops it.o, (putSlot ρ p.o.dst vp).getD t .junk = ρ.getD t .junk := fun vp t ht => getD_putSlot (ha1 t ht)
    have agO : ∀ (vp : AVal), ∀ t ∈ opTmps it.o, (putSlot ρ p.o.dst vp).getD t .junk = ρ.getD t .junk := fun vp t ht => agI vp t (mem_looksL.2 (.inl ht))
    have agP : ∀ (v : AVal), ∀ t ∈ looksL ops p.o, (putSlot ρ it.o.dst v).getD t .junk = ρ.getD t .junk := fun v t ht => getD_putSlot (ha2 t ht)
    have agPO : ∀ (v : AVal), ∀ t ∈ opTmps p.o, (putSlot ρ it.o.dst v).getD t .junk = ρ.getD t .junk := fun v t ht => agP v t (mem_looksL.2 (.inl ht))
    -- 'p' by what it does: a value, and a change of the heap
    have main : ∀ (idsP : List Nat) (vp : AVal) (T : Heap → Heap), (p.rsv ≠ none ∨ (p.locks = [] ∧ idsP = [])) →
        evalItems cx ops m (pre ++ it :: post) (seen.set p.i (seenAt cx.A p.o ρ)) (putSlot ρ p.o.dst vp) (T h) k kp = some r →
        (∀ ids kv, (isEff it.o = false → ids = []) → (∀ j ∈ it.locks, (∀ q ∈ pre, q.i ≠ j) → ∀ id, addrId ((seen.set p.i (seenAt cx.A p.o ρ)).getD j .junk) = some id → id ∈ ids) →
          evalItemF cx ops m it ids ρ (T h) kv kp = some r → evalItemF cx ops m it ids ρ h (fun v h' => kv v (T h')) kp = some r ∧
          ∀ v h', Keep it m ids h h' → Keep it m ids (T h) (T h') ∧ ∀ kv2, evalItemF cx ops m p (lockIds p.locks (seen.set it.i (seenAt cx.A it.o ρ))) (putSlot ρ it.o.dst v) h' kv2 kp = kv2 vp (T h')) →
        ∃ ids kv, evalItemF cx ops m it ids ρ h kv kp = some r ∧ (∀ j ∈ it.locks, (∀ q ∈ p :: pre, q.i ≠ j) → ∀ id, addrId (seen.getD j .junk) = some id → id ∈ ids) ∧ (isEff it.o = false → ids = []) ∧
          ∀ v h', Keep it m ids h h' → kv v h' = some r → evalItems cx ops m (p :: pre ++ post) (seen.set it.i (seenAt cx.A it.o ρ)) (putSlot ρ it.o.dst v) h' k kp = some r := by
      intro idsP vp T _ hnext hrun
      obtain ⟨ids, kv, e1, e2, e3, e4⟩ := ih _ _ _ (fun q hq => by
        have := hpre q (by simp [hq])
        exact ⟨this.1, this.2.1, by simpa using this.2.2⟩) hnd.2 hnext
      rw [evalItemF_congr (agI vp)] at e1
      obtain ⟨r1, r2⟩ := hrun ids kv e3 e2 e1
      refine ⟨ids, _, r1, fun j hj hno id hid => ?_, e3, fun v h' hkeep hk => ?_⟩
      · refine e2 j hj (fun q hq => hno q (by simp [hq])) id ?_
        have : p.i ≠ j := hno p (by simp)
        simpa [List.getD_eq_getElem?_getD, List.getElem?_set, this] using hid
      · obtain ⟨k1, k2⟩ := r2 v h' hkeep
        have e5 := e4 v (T h') k1 hk
        simp only [List.cons_append, evalItems, forceL_eq]
        rw [k2]
        rw [seenAt_congr (agPO v), putSlot_comm (ρ := ρ) (x := it.o.dst) (y := p.o.dst) (fun d h1 h2 => ha3 d h2 h1), List.set_comm _ _ (Ne.symm hne), ← seenAt_congr (agO vp)]
        exact e5
    simp only [List.cons_append, evalItems, forceL_eq] at hb
    cases hpr : p.rsv with
    | some a =>
      -- a new block
      have hb' := hb
      unfold evalItemF at hb'
      simp only [hpr] at hb'
      cases hf : isFloatOp p.o with
      | false => rw [hf] at hb'; cases hb'
      | true =>
        rw [hf] at hb'
        simp only [cond_true] at hb'
        obtain ⟨vp, b, f1, f2, f3⟩ := float_op hf hb'
        have hlen : m + a < h.length := (List.getElem?_eq_some_iff.1 f1).1
        have tk : ∀ x : Heap, (x.set (m + a) b).take m = x.take m := fun x => List.take_set_of_le (by omega)
        have ts : ∀ t x : Heap, t.length = m → (t ++ x.drop m).set (m + a) b = t ++ (x.set (m + a) b).drop m := by
          intro t x ht
          rw [List.set_append_right _ _ (by omega), List.drop_set, if_neg (by omega), ht]
        refine main [] vp (fun x => x.set (m + a) b) (.inl (by simp [hpr])) f2 fun ids kv he hl hrun => ⟨?_, fun v h' hk => ⟨?_, fun kv2 => ?_⟩⟩
        · refine tr_run hrb ?_ he (fun j hj => ?_) hrun
          · cases hir : it.rsv with
            | some j => exact .inl (by simp)
            | none =>
              refine .inr ?_
              simp only [hpr, hir] at hind2
              cases hh : it.hid with
              | true => exact .inl ⟨rfl, rfl, tk h, fun t ht => ts t h ht⟩
              | false =>
                simp [hh] at hind2
                exact .inr ⟨rfl, rfl, hind2.1, hind2.2⟩
          · simp only [hpr, hj, bne_iff_ne, ne_eq] at hind2
            exact ⟨List.getElem?_set_ne (by omega), fun b' => List.set_comm _ _ (by omega)⟩
        · obtain ⟨k1, k2, k3, k4⟩ := hk
          refine ⟨fun he => by rw [k1 he], fun id hid hbl => ?_, fun j hj => ?_, fun hr hh => ?_⟩
          · by_cases hia : m + a = id
            · subst hia
              by_cases h2 : m + a < h'.length
              · simp [List.getElem?_set, hlen, h2]
              · exfalso
                cases hir : it.rsv with
                | some j => obtain ⟨b', _, rfl⟩ := k3 j hir; simp at h2; omega
                | none =>
                  cases hh : it.hid with
                  | true => obtain ⟨t, ht, rfl⟩ := k4 hir hh; simp at h2; omega
                  | false =>
                    simp only [hpr, hir, hh] at hind2
                    simp at hind2
                    rw [k1 hind2.1] at h2; exact h2 hlen
            · rw [List.getElem?_set_ne hia, List.getElem?_set_ne hia]
              refine k2 id hid ?_
              unfold isBlk at hbl ⊢
              rwa [List.getElem?_set_ne hia] at hbl
          · obtain ⟨b', f4, rfl⟩ := k3 j hj
            simp only [hpr, hj, bne_iff_ne, ne_eq] at hind2
            exact ⟨b', by rw [List.getElem?_set_ne (by omega)]; exact f4, List.set_comm _ _ (by omega)⟩
          · obtain ⟨t, ht, rfl⟩ := k4 hr hh
            exact ⟨t, ht, ts t h ht⟩
        · have hfree : h'[m + a]? = some .free := by
            obtain ⟨k1, k2, k3, k4⟩ := hk
            cases hir : it.rsv with
            | some j =>
              obtain ⟨b', f4, rfl⟩ := k3 j hir
              simp only [hpr, hir, bne_iff_ne, ne_eq] at hind2
              rw [List.getElem?_set_ne (by omega)]; exact f1
            | none =>
              cases hh : it.hid with
              | true =>
                obtain ⟨t, ht, rfl⟩ := k4 hir hh
                rw [List.getElem?_append_right (by omega), List.getElem?_drop, ht]
                rw [show m + (m + a - m) = m + a by omega]; exact f1
              | false =>
                simp only [hpr, hir, hh] at hind2
                simp at hind2
                rw [k1 hind2.1]; exact f1
          rw [evalItemF_congr (agP v)]
          unfold evalItemF
          simp only [hpr, hf, cond_true]
          exact f3 h' _ _ hfree
    | none =>
      have hlk : p.locks = [] := hpl.resolve_left (by simp [hpr])
      cases hph : p.hid with
      | true =>
        have hb' := hb
        unfold evalItemF at hb'
        simp only [hpr, hph, cond_true] at hb'
        cases hf : isCallOp p.o with
        | false => rw [hf] at hb'; cases hb'
        | true =>
          rw [hf] at hb'
          simp only [cond_true, hlk, lockIds, List.filterMap_nil] at hb'
          obtain ⟨vp, t, f1, f2, f3⟩ := hid_op hb'
          have hkind : (∃ j, it.rsv = some j) ∨ (it.rsv = none ∧ it.hid = false ∧ isEff it.o = false ∧ isRead it.o = none) := by
            cases hir : it.rsv with
            | some j => exact .inl ⟨j, rfl⟩
            | none =>
              simp only [hpr, hir, hph] at hind2
              simp at hind2
              exact .inr ⟨rfl, hind2.2.1, hind2.2.2.1, hind2.2.2.2⟩
          refine main [] vp (fun x => t ++ x.drop m) (.inr ⟨hlk, rfl⟩) f2 fun ids kv he hl hrun => ⟨?_, fun v h' hk => ⟨?_, fun kv2 => ?_⟩⟩
          · refine tr_run hrb ?_ he (fun j hj => ⟨?_, fun b' => ?_⟩) hrun
            · rcases hkind with ⟨j, hj⟩ | hk
              · exact .inl (by simp [hj])
              · exact .inr (.inr hk)
            · rw [List.getElem?_append_right (by omega), List.getElem?_drop, f1, show m + (m + j - m) = m + j by omega]
            · rw [List.set_append_right _ _ (by omega), List.drop_set, if_neg (by omega), f1]
          · obtain ⟨k1, k2, k3, k4⟩ := hk
            rcases hkind with ⟨j, hj⟩ | ⟨g1, g2, g3, g4⟩
            · obtain ⟨b', f4, rfl⟩ := k3 j hj
              have hie' := hie (.inl (by simp [hj]))
              have hlen : m + j < h.length := (List.getElem?_eq_some_iff.1 f4).1
              have e1 : t ++ (h.set (m + j) b').drop m = (t ++ h.drop m).set (m + j) b' := by
                rw [List.set_append_right _ _ (by omega), List.drop_set, if_neg (by omega), f1]
              refine ⟨fun he => (by rw [hie'] at he; cases he), fun id hid hbl => ?_, fun j' hj' => ?_, fun hr => (by rw [hj] at hr; cases hr)⟩
              · rw [e1]
                refine List.getElem?_set_ne fun hji => ?_
                subst hji
                refine notBlk ?_ hbl
                rw [List.getElem?_append_right (by omega), List.getElem?_drop, f1, show m + (m + j - m) = m + j by omega]
                exact f4
              · rw [hj] at hj'; cases hj'
                refine ⟨b', ?_, e1⟩
                rw [List.getElem?_append_right (by omega), List.getElem?_drop, f1, show m + (m + j - m) = m + j by omega]
                exact f4
            · have := k1 g3
              subst this
              exact ⟨fun _ => rfl, fun _ _ _ => rfl, fun j hj => (by rw [g1] at hj; cases hj), fun _ hh => (by rw [g2] at hh; cases hh)⟩
          · have htake : h'.take m = h.take m := by
              obtain ⟨k1, k2, k3, k4⟩ := hk
              rcases hkind with ⟨j, hj⟩ | ⟨g1, g2, g3, g4⟩
              · obtain ⟨b', f4, rfl⟩ := k3 j hj
                exact List.take_set_of_le (by omega)
              · rw [k1 g3]
            rw [evalItemF_congr (agP v)]
            unfold evalItemF
            simp only [hpr, hph, hf, cond_true, hlk, lockIds, List.filterMap_nil]
            exact f3 h' _ htake
      | false =>
        have hpe : isEff p.o = false := by
          cases hir : it.rsv <;> simp [hpr, hir, hph] at hind2
          · exact hind2.1.1
          · exact hind2.1
        have hb' := hb
        unfold evalItemF at hb'
        simp only [hpr, hph, cond_false, hlk, lockIds, List.filterMap_nil] at hb'
        obtain ⟨vp, hnext, hlight⟩ := light_item hrb hpe hb'
        refine main [] vp id (.inr ⟨hlk, rfl⟩) hnext fun ids kv he hl hrun => ⟨hrun, fun v h' hk => ⟨hk, fun kv2 => ?_⟩⟩
        rw [evalItemF_congr (agP v)]
        unfold evalItemF
        simp only [hpr, hph, cond_false, hlk, lockIds, List.filterMap_nil]
        refine hlight h' _ _ fun id hid hblk => ?_
        obtain ⟨k1, k2, k3, k4⟩ := hk
        cases hir : it.rsv with
        | some j =>
          obtain ⟨b', f4, rfl⟩ := k3 j hir
          refine List.getElem?_set_ne fun hji => ?_
          subst hji
          exact notBlk f4 hblk
        | none =>
          cases hie2 : isEff it.o with
          | false => rw [k1 hie2]
          | true =>
            refine k2 id ?_ hblk
            have hrd : (isRead p.o).isSome = true := by
              unfold readId at hid
              cases hr : isRead p.o with
              | none => simp [hr] at hid
              | some x => rfl
            simp only [hpr, hir, hph, cond_false, Bool.and_eq_true, Bool.or_eq_true] at hind2
            have hmem : p.i ∈ it.locks := by
              rcases hind2.2 with (h1 | h1) | h1
              · simp [hrd] at h1
              · simp [hie2] at h1
              · simpa using h1
            refine hl p.i hmem (fun q hq he => hnd.1 (List.mem_map.2 ⟨q, hq, he⟩)) id ?_
            have : (seen.set p.i (seenAt cx.A p.o ρ)).getD p.i .junk = seenAt cx.A p.o ρ := by simp [List.getD_eq_getElem?_getD, hlt]
            rw [this]
            unfold readId at hid
            unfold seenAt
            cases hr : isRead p.o with
            | none => simp [hr] at hid
            | some x => simpa [hr] using hid

end
end
end Hk

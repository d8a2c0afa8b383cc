/-
  DROPPING BLOCKS.
-/
import Derived.Test.YtkeoalhglkfbkaaDoorHkRegion4
set_option linter.unusedVariables false
set_option linter.unusedSimpArgs false
namespace Hk
open Go Go.RowKit

section
variable {G G' : Gh} {h h' : Heap} {w : World} {m : Nat}

/-- What is left of the relation when the blocks from m on are dropped. -/
structure Left (G : Gh) (h : Heap) (G' : Gh) (h' : Heap) (m : Nat) : Prop where
  hmono : ∀ b k v, G.H b k = some v → G'.H b k = some v
  blk : G'.blk = G.blk
  cur : G'.cur = G.cur
  live : ∀ id, id < m → Hk.live h id → Hk.live h' id
  front : ∀ (id n sz : Nat), id < m → h[id]? = some (.front n sz) → h'[id]? = some (.front n sz)

theorem shut0_rel (l : Left G h G' h' m) {v : AVal} {V : Value} (hs : v.shut0 m = true) (r : RelV G h v V) : RelV G' h' v V := by
  cases r with
  | p v V hp => exact .p v V (hp.mono l.hmono)
  | agg cs C hl hh => simp [AVal.shut0] at hs
  | tuple cs C hl hh => simp [AVal.shut0] at hs
  | nil => exact .nil
  | own rows id n sz V hp hf hn hr hc =>
    have hid : id < m := by simpa [AVal.shut0, refOf] using hs
    exact .own rows id n sz V (hp.mono l.hmono) (l.front _ _ _ hid hf) hn hr (by rw [l.cur]; exact hc)
  | ptr id off hl =>
    have hid : id < m := by simpa [AVal.shut0, refOf] using hs
    rw [← l.blk]; exact .ptr id off (l.live _ hid hl)
  | mslice id off len sz cap hl hc =>
    have hid : id < m := by simpa [AVal.shut0, refOf] using hs
    rw [← l.blk]; exact .mslice id off len sz cap (l.live _ hid hl) hc
  | mslice0 id off sz cap a => exact .mslice0 id off sz cap a
  | map id hl =>
    have hid : id < m := by simpa [AVal.shut0, refOf] using hs
    rw [← l.blk]; exact .map id (l.live _ hid hl)
  | func f first cap F C hlf hlc hf hc =>
    simp only [AVal.shut0, Bool.and_eq_true, List.isEmpty_iff] at hs
    obtain ⟨rfl, rfl⟩ := hs
    exact .func f [] [] F C hlf hlc (by simp) (by simp)
  | iface t v V hh => simp [AVal.shut0] at hs

theorem shut1_rel (l : Left G h G' h' m) {v : AVal} {V : Value} (hs : v.shut1 m = true) (r : RelV G h v V) : RelV G' h' v V := by
  cases v with
  | agg cs =>
    obtain ⟨C, rfl, hl, hr⟩ := r.agg_inv
    simp only [AVal.shut1, List.all_eq_true] at hs
    exact .agg cs C hl fun i u hu => shut0_rel l (hs u (List.mem_of_getElem? hu)) (hr i u hu)
  | iface t v =>
    obtain ⟨W, rfl, hr⟩ := r.iface_inv
    exact .iface t v W (shut0_rel l hs hr)
  | func f first cap =>
    obtain ⟨F, C, rfl, hlf, hlc, hf, hc⟩ := r.func_inv
    simp only [AVal.shut1, Bool.and_eq_true, List.all_eq_true] at hs
    exact .func f first cap F C hlf hlc (fun i u hu => shut0_rel l (hs.1 u (List.mem_of_getElem? hu)) (hf i u hu)) (fun i u hu => shut0_rel l (hs.2 u (List.mem_of_getElem? hu)) (hc i u hu))
  | _ => exact shut0_rel l hs r

/-- What the dropped blocks of cells leave behind: their cells, for good. -/
def Stays (G : Gh) (h : Heap) (w : World) (G' : Gh) (m : Nat) : Prop :=
  ∀ id cs, m ≤ id → h[id]? = some (.cells cs) → ∀ k, G'.H (G.blk id) k = w.cell? ⟨G.blk id, k, none⟩

theorem san1_rel (i : Inv G h w) (l : Left G h G' h' m) (st : Stays G h w G' m) {v : AVal} {V : Value} (r : RelV G h v V) : RelV G' h' (v.san1 m h) V := by
  have junk : RelV G' h' .junk V := .p _ _ (.junk _)
  -- the cells of a block that is dropped
  have cellsOf : ∀ (id : Nat) (cs row part : List AVal) (off : Nat), m ≤ id → h[id]? = some (.cells cs) → (∀ (j : Nat) (c : AVal), part[j]? = some c → cs[off + j]? = some c) → pureRow part = some row →
      ∃ F : Nat → Value, ∀ (j : Nat) (v : AVal), row[j]? = some v → G'.H (G.blk id) (off + j) = some (F j) ∧ v.cellOk = true ∧ RelP G'.H v (F j) := by
    intro id cs row part off hid hc hpart hrow
    obtain ⟨C, e, h1, h2, h3, h4⟩ := i.blk id _ hc
    obtain ⟨p1, p2⟩ := pureRow_spec hrow
    refine ⟨fun j => C.getD (off + j) undef, fun j v hv => ?_⟩
    have hj : j < part.length := by rw [← p1]; exact (List.getElem?_eq_some_iff.1 hv).1
    obtain ⟨c', e1, e2⟩ := p2 j _ (List.getElem?_eq_getElem hj)
    rw [hv] at e1; cases e1
    have hcs := hpart j _ (List.getElem?_eq_getElem hj)
    have hlt : off + j < C.size := by rw [h2]; exact (List.getElem?_eq_some_iff.1 hcs).1
    obtain ⟨e3, e4⟩ := pure1_rel e2 (h4 _ _ hcs).2
    refine ⟨?_, e4, e3.mono l.hmono⟩
    rw [st id cs hid hc, cell_of w _ _ h1]
    simp [Array.getD_eq_getD_getElem?, hlt]
  cases v with
  | slice rows t =>
    cases t with
    | own id =>
      simp only [AVal.san1]
      cases hd : decide (id < m) with
      | true =>
        simp only [cond_true]
        exact shut0_rel l (by simpa [AVal.shut0, refOf] using hd) r
      | false =>
        simp only [cond_false]
        exact .p _ _ (r.slice_inv.mono l.hmono)
    | _ => exact shut0_rel l rfl r
  | ptr id off =>
    simp only [AVal.san1]
    cases hd : decide (id < m) with
    | true =>
      simp only [cond_true]
      exact shut0_rel l (by simpa [AVal.shut0, refOf] using hd) r
    | false =>
      simp only [cond_false]
      have hid : m ≤ id := by simpa using hd
      split
      · rename_i cs hc
        split
        · rename_i row hrow
          obtain ⟨rfl, _⟩ := r.ptr_inv
          obtain ⟨F, hF⟩ := cellsOf id cs row _ off hid hc (fun j c hj => by rwa [List.getElem?_drop] at hj) hrow
          exact .p _ _ (.pptr row _ off F (fun j v hv => (hF j v hv).1) (fun j v hv => (hF j v hv).2.1) (fun j v hv => (hF j v hv).2.2))
        · exact junk
      · exact junk
  | mslice id off len sz =>
    simp only [AVal.san1]
    cases hd : decide (id < m) with
    | true =>
      simp only [cond_true]
      exact shut0_rel l (by simpa [AVal.shut0, refOf] using hd) r
    | false =>
      simp only [cond_false]
      have hid : m ≤ id := by simpa using hd
      split
      · rename_i cs hc
        split
        · rename_i row hrow
          cases hle : decide (off + len * sz ≤ cs.length) with
          | false => exact junk
          | true =>
            simp only [cond_true]
            have hle : off + len * sz ≤ cs.length := by simpa using hle
            obtain ⟨a, cap, rfl, hcap, ha⟩ := r.mslice_inv
            by_cases h0 : len = 0
            · subst h0; exact .p _ _ (.slice0 a cap)
            · obtain ⟨rfl, _⟩ := ha (by omega)
              obtain ⟨F, hF⟩ := cellsOf id cs row _ off hid hc (fun j c hj => by
                rw [List.getElem?_take] at hj
                split at hj
                · rwa [List.getElem?_drop] at hj
                · cases hj) hrow
              have hrl : row.length = len * sz := by rw [(pureRow_spec hrow).1]; simp; omega
              exact .p _ _ (relP_rows (by omega) hcap (fun j v hv _ => ⟨(hF j v hv).1, (hF j v hv).2.2, (hF j v hv).2.1⟩))
        · exact junk
      · exact junk
  | _ =>
    simp only [AVal.san1]
    first
      | (cases hs : AVal.shut1 m _ with
         | true => exact shut1_rel l hs r
         | false => exact junk)

theorem san_rel (i : Inv G h w) (l : Left G h G' h' m) (st : Stays G h w G' m) {v : AVal} {V : Value} (r : RelV G h v V) : RelV G' h' (v.san m h) V := by
  have one : ∀ {v : AVal} {V : Value}, RelV G h v V → RelV G' h' (v.san1 m h) V := fun r => san1_rel i l st r
  have agg : ∀ (cs : List AVal) (X : Value), RelV G h (.agg cs) X → RelV G' h' (.agg (cs.map (·.san1 m h))) X := by
    intro cs X hx
    obtain ⟨C, rfl, hl, hr⟩ := hx.agg_inv
    refine .agg _ _ (by simpa using hl) fun i u hu => ?_
    simp only [List.getElem?_map, Option.map_eq_some_iff] at hu
    obtain ⟨a, ha, rfl⟩ := hu
    exact one (hr i a ha)
  cases v with
  | agg cs => exact agg cs V r
  | tuple vs =>
    obtain ⟨C, rfl, hl, hr⟩ := r.tuple_inv
    refine .tuple _ _ (by simpa using hl) fun i u hu => ?_
    simp only [List.getElem?_map, Option.map_eq_some_iff] at hu
    obtain ⟨a, ha, rfl⟩ := hu
    have := hr i a ha
    cases a <;> first | exact agg _ _ this | exact one this
  | iface t v =>
    obtain ⟨W, rfl, hr⟩ := r.iface_inv
    cases v <;> first | exact .iface _ _ _ (agg _ _ hr) | exact .iface _ _ _ (one hr)
  | _ => exact one r

theorem sanCells_spec : ∀ {cs cs' : List AVal}, sanCells m h cs = some cs' → cs'.length = cs.length ∧ ∀ (j : Nat) (c : AVal), cs'[j]? = some c → c.cellOk = true ∧ ∃ c0, cs[j]? = some c0 ∧ c = c0.san1 m h
  | [], cs', hc => by simp only [sanCells, Option.some.injEq] at hc; subst hc; simp
  | v :: r, cs', hc => by
    simp only [sanCells] at hc
    cases hk : (v.san1 m h).cellOk with
    | false => rw [hk] at hc; cases hc
    | true =>
      rw [hk] at hc
      simp only [cond_true] at hc
      split at hc
      · rename_i r' hr
        cases hc
        obtain ⟨h1, h2⟩ := sanCells_spec hr
        refine ⟨by simp [h1], fun j c hj => ?_⟩
        cases j with
        | zero => simp at hj; subst hj; exact ⟨hk, v, rfl, rfl⟩
        | succ j => simpa using h2 j c (by simpa using hj)
      · cases hc

theorem sanBlks_spec : ∀ {bs bs' : List ABlk}, sanBlks m h bs = some bs' → bs'.length = bs.length ∧ ∀ (j : Nat) (b : ABlk), bs[j]? = some b → ∃ b', bs'[j]? = some b' ∧ sanBlk m h b = some b'
  | [], bs', hb => by simp only [sanBlks, Option.some.injEq] at hb; subst hb; simp
  | b :: r, bs', hb => by
    simp only [sanBlks] at hb
    split at hb
    · rename_i b' r' hb' hr
      cases hb
      obtain ⟨h1, h2⟩ := sanBlks_spec hr
      refine ⟨by simp [h1], fun j c hj => ?_⟩
      cases j with
      | zero => simp at hj; subst hj; exact ⟨b', rfl, hb'⟩
      | succ j => simpa using h2 j c (by simpa using hj)
    · cases hb

theorem trunc_spec (ht : trunc m h = some h') (hm : m ≤ h.length) : h'.length = m ∧ ∀ (id : Nat) (b : ABlk), id < m → h[id]? = some b → ∃ b', h'[id]? = some b' ∧ sanBlk m h b = some b' := by
  obtain ⟨h1, h2⟩ := sanBlks_spec ht
  refine ⟨by rw [h1]; simp; omega, fun id b hid hb => ?_⟩
  exact h2 id b (by rw [List.getElem?_take, if_pos hid]; exact hb)

theorem sanBlk_kind {b b' : ABlk} (hs : sanBlk m h b = some b') : (∀ G G' : Gh, G'.blk = G.blk → G'.cur = G.cur → ∀ id, Kind G G' id b b') ∧ (b ≠ .free → b' ≠ .free) ∧ (∀ n sz, b = .front n sz → b' = .front n sz) ∧
    ∀ (G : Gh) (id : Nat), ownerB G id b' = ownerB G id b := by
  cases b with
  | cells cs =>
    simp only [sanBlk, Option.map_eq_some_iff] at hs
    obtain ⟨cs', h1, rfl⟩ := hs
    refine ⟨fun G G' e1 e2 id => ⟨(sanCells_spec h1).1.symm, by rw [e1]⟩, by simp, by simp, by simp [ownerB]⟩
  | map es =>
    simp only [sanBlk] at hs
    cases ha : es.all (fun e => e.2.shut1 m) <;> rw [ha] at hs <;> cases hs
    exact ⟨fun G G' e1 e2 id => by simp [Kind, e1], by simp, by simp, by simp⟩
  | free => cases hs; exact ⟨fun G G' e1 e2 id => trivial, by simp, by simp, by simp⟩
  | gone => cases hs; exact ⟨fun G G' e1 e2 id => by simp [Kind, e1], by simp, by simp, by simp⟩
  | front n sz => cases hs; exact ⟨fun G G' e1 e2 id => by simp [Kind, e1, e2], by simp, by simp, by simp⟩

end

theorem trunc_ok {G G1 : Gh} {h h1 h2 : Heap} {w w1 : World} (x : Ext G h w G1 h1 w1) (i1 : Inv G1 h1 w1) (ht : trunc h.length h1 = some h2) :
    ∃ G2, Inv G2 h2 w1 ∧ Ext G h w G2 h2 w1 ∧ h2.length = h.length ∧ (∀ (v : AVal) (V : Value), RelV G1 h1 v V → RelV G2 h2 (v.san h.length h1) V) ∧ ∀ b k v, G1.H b k = some v → G2.H b k = some v := by
  classical
  have hm : h.length ≤ h1.length := by
    by_cases h0 : h.length = 0
    · omega
    · have hlt : h.length - 1 < h.length := by omega
      obtain ⟨bl', hb, _⟩ := x.kinds (h.length - 1) _ (List.getElem?_eq_getElem hlt)
      have := (List.getElem?_eq_some_iff.1 hb).1
      omega
  let Drop : Nat → Prop := fun b => ∃ id cs, h.length ≤ id ∧ h1[id]? = some (.cells cs) ∧ G1.blk id = b
  let G2 : Gh := { G1 with H := fun b k => if Drop b then w1.cell? ⟨b, k, none⟩ else G1.H b k }
  have hH : ∀ b k, G2.H b k = if Drop b then w1.cell? ⟨b, k, none⟩ else G1.H b k := fun _ _ => rfl
  have dropNone : ∀ b, Drop b → ∀ k, G1.H b k = none := by
    rintro b ⟨id, cs, _, hc, rfl⟩ k
    obtain ⟨C, e, _, _, h3, _⟩ := i1.blk id _ hc
    exact h3 k
  have hmono : ∀ b k v, G1.H b k = some v → G2.H b k = some v := by
    intro b k v hv
    rw [hH]
    split
    · rename_i hd; rw [dropNone b hd k] at hv; cases hv
    · exact hv
  obtain ⟨tl, tb⟩ := trunc_spec ht hm
  -- the blocks of the new heap
  have back : ∀ (id : Nat) (b' : ABlk), h2[id]? = some b' → id < h.length ∧ ∃ b, h1[id]? = some b ∧ sanBlk h.length h1 b = some b' := by
    intro id b' hb'
    have hid : id < h.length := by rw [← tl]; exact (List.getElem?_eq_some_iff.1 hb').1
    have hlt : id < h1.length := by omega
    obtain ⟨b'', e1, e2⟩ := tb id _ hid (List.getElem?_eq_getElem hlt)
    rw [hb'] at e1; cases e1
    exact ⟨hid, _, List.getElem?_eq_getElem hlt, e2⟩
  have l : Left G1 h1 G2 h2 h.length := by
    refine ⟨hmono, rfl, rfl, fun id hid ⟨b, hb, hf⟩ => ?_, fun id n sz hid hf => ?_⟩
    · obtain ⟨b', e1, e2⟩ := tb id b hid hb
      exact ⟨b', e1, (sanBlk_kind e2).2.1 hf⟩
    · obtain ⟨b', e1, e2⟩ := tb id _ hid hf
      rw [e1, (sanBlk_kind e2).2.2.1 n sz rfl]
  have st : Stays G1 h1 w1 G2 h.length := by
    intro id cs hid hc k
    rw [hH, if_pos ⟨id, cs, hid, hc, rfl⟩]
  have own : ∀ id b, owner G2 h2 id = some b → id < h.length ∧ owner G1 h1 id = some b := by
    intro id b ho
    obtain ⟨bl, hb, hob⟩ := owner_some ho
    obtain ⟨hid, b0, e1, e2⟩ := back id bl hb
    refine ⟨hid, ?_⟩
    rw [owner_eq e1, ← (sanBlk_kind e2).2.2.2]
    cases bl <;> exact hob
  have noDrop : ∀ id b, id < h.length → owner G1 h1 id = some b → ¬ Drop b := by
    rintro id b hid ho ⟨id', cs, hid', hc, rfl⟩
    have := i1.inj id id' _ ho (by rw [owner_eq hc]; rfl)
    omega
  have ext : Ext G h w G2 h2 w1 := by
    refine ⟨x.os, x.tape, x.output, x.size, fun b hb hn => ?_, fun b k v hv => hmono b k v (x.hmono b k v hv), fun id b ho hb => x.own id b (own id b ho).2 hb, fun id bl hb => ?_⟩
    · obtain ⟨e1, e2⟩ := x.frame b hb hn
      refine ⟨e1, fun k => ?_⟩
      rw [hH, if_neg, e2]
      rintro ⟨id, cs, hid, hc, rfl⟩
      exact hn id (x.own id _ (by rw [owner_eq hc]; rfl) hb)
    · obtain ⟨bl', e1, e2⟩ := x.kinds id bl hb
      obtain ⟨b', e3, e4⟩ := tb id bl' (List.getElem?_eq_some_iff.1 hb).1 e1
      exact ⟨b', e3, e2.trans ((sanBlk_kind e4).1 G1 G2 rfl rfl id)⟩
  refine ⟨G2, ⟨fun b k v hv => ?_, fun id bl hb => ?_, fun a b c ha hb => i1.inj a b c (own a c ha).2 (own b c hb).2⟩, ext, tl, fun v V r => san_rel i1 l st r, hmono⟩
  · rw [hH] at hv
    split at hv
    · exact hv
    · exact i1.ok b k v hv
  · obtain ⟨hid, b0, e1, e2⟩ := back id bl hb
    have hk := i1.blk id b0 e1
    have keepH : ∀ b, owner G1 h1 id = some b → ∀ k, G2.H b k = G1.H b k := fun b ho k => by rw [hH, if_neg (noDrop id b hid ho)]
    cases b0 with
    | free => cases e2; trivial
    | gone => cases e2; trivial
    | cells cs =>
      simp only [sanBlk, Option.map_eq_some_iff] at e2
      obtain ⟨cs', e3, rfl⟩ := e2
      obtain ⟨C, e, g1, g2, g3, g4⟩ := hk
      obtain ⟨s1, s2⟩ := sanCells_spec e3
      refine ⟨C, e, g1, by rw [s1]; exact g2, fun k => by rw [show G2.blk id = G1.blk id from rfl, keepH _ (by rw [owner_eq e1]; rfl)]; exact g3 k, fun j v hv => ?_⟩
      obtain ⟨k1, c0, k2, rfl⟩ := s2 j v hv
      exact ⟨k1, san1_rel i1 l st (g4 j c0 k2).2⟩
    | map es =>
      simp only [sanBlk] at e2
      cases ha : es.all (fun e => e.2.shut1 h.length) <;> rw [ha] at e2 <;> cases e2
      simp only [List.all_eq_true] at ha
      obtain ⟨E, clock, g1, g2, g3, g4⟩ := hk
      refine ⟨E, clock, g1, g2, fun k => by rw [show G2.blk id = G1.blk id from rfl, keepH _ (by rw [owner_eq e1]; rfl)]; exact g3 k, fun j kv hkv => ?_⟩
      obtain ⟨mm, k1, k2, k3, k4⟩ := g4 j kv hkv
      exact ⟨mm, k1, k2, k3.mono hmono, shut1_rel l (ha kv (List.mem_of_getElem? hkv)) k4⟩
    | front n sz =>
      cases e2
      rcases hk with ⟨k1, k2⟩ | ⟨b, cap, C, e, k1, k2, k3, k4, k5, k6, k7⟩
      · exact .inl ⟨k1, k2⟩
      · exact .inr ⟨b, cap, C, e, k1, k2, k3, k4, k5, k6, fun k hk => by rw [keepH b (by rw [owner_eq e1]; simp [ownerB, k1, Value.ownBlock])]; exact k7 k hk⟩

end Hk

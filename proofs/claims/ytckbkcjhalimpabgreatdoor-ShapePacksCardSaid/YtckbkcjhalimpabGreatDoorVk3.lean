/-
  The texts Vk.Region2, Vk.Region3, Vk.Region4, Vk.Trunc, Vk.Rd, Vk.Code, Vk.Dfr, Vk.Sub, Vk.Rg, Vk.Fn, one behind another. No conditions.
-/
import Derived.Test.YtckbkcjhalimpabGreatDoorVk2
import Derived.RangeFuncLeaves
import Derived.RangeFuncRecord
import Derived.RangeFuncSeq
import Derived.OrdersIn
import Derived.LoopNIn
import Derived.LoopN
import Derived.Recover
set_option linter.unusedVariables false
set_option linter.unusedSimpArgs false
set_option linter.all false
namespace Hk
section
open Go Go.RowKit

structure Sub (h h' : Heap) : Prop where
  live : ∀ id, Hk.live h id → Hk.live h' id
  front : ∀ (id n sz t : Nat), h[id]? = some (.front n sz t) → h'[id]? = some (.front n sz t)
  nf : ∀ id, noFront h id → noFront h' id

theorem RelV.sub {G : Gh} {h h' : Heap} (s : Sub h h') {v : AVal} {V : Value} (r : RelV G h v V) : RelV G h' v V := by
  induction r with
  | p v V hp => exact .p v V hp
  | agg cs C hl _ ih => exact .agg cs C hl ih
  | tuple cs C hl _ ih => exact .tuple cs C hl ih
  | nil => exact .nil
  | own rows id n sz V hp hf hn hr hc => exact .own rows id n sz V hp (s.front _ _ _ _ hf) hn hr hc
  | ownv id V hp hb => exact .ownv id V hp (s.nf _ hb)
  | vslice id tot off len sz b cap hl ht hc hv => exact .vslice id tot off len sz b cap (s.nf _ hl) ht hc hv
  | vptr id tot off b hl ht hv => exact .vptr id tot off b (s.nf _ hl) ht hv
  | ptr id off hl => exact .ptr id off (s.live _ hl)
  | mslice id off len sz cap hl hc => exact .mslice id off len sz cap (s.live _ hl) hc
  | mslice0 id off sz cap a => exact .mslice0 id off sz cap a
  | map id hl => exact .map id (s.live _ hl)
  | func f first cap F C hlf hlc _ _ ihf ihc => exact .func f first cap F C hlf hlc ihf ihc
  | iface t v V _ ih => exact .iface t v V ih

theorem isBlk_iff {h : Heap} {id : Nat} : isBlk h id ↔ ∃ b, h[id]? = some b ∧ ((∃ cs, b = .cells cs) ∨ (∃ es, b = .map es) ∨ (∃ tot sz cs, b = .vec tot sz cs) ∨ ∃ t cs, b = .tcells t cs) := by
  constructor
  · rintro (⟨cs, hc⟩ | ⟨es, hc⟩ | ⟨t, s, cs, hc⟩ | ⟨t, cs, hc⟩)
    · exact ⟨_, hc, .inl ⟨_, rfl⟩⟩
    · exact ⟨_, hc, .inr (.inl ⟨_, rfl⟩)⟩
    · exact ⟨_, hc, .inr (.inr (.inl ⟨_, _, _, rfl⟩))⟩
    · exact ⟨_, hc, .inr (.inr (.inr ⟨_, _, rfl⟩))⟩
  · rintro ⟨b, hb, ⟨cs, rfl⟩ | ⟨es, rfl⟩ | ⟨t, s, cs, rfl⟩ | ⟨t, cs, rfl⟩⟩
    · exact .inl ⟨_, hb⟩
    · exact .inr (.inl ⟨_, hb⟩)
    · exact .inr (.inr (.inl ⟨_, _, _, hb⟩))
    · exact .inr (.inr (.inr ⟨_, _, hb⟩))
/-- A block that may be hidden: it is there, and no token's. -/
theorem isBlk.nf {h : Heap} {id : Nat} (hb : isBlk h id) : ∃ b, h[id]? = some b ∧ b ≠ .free ∧ ∀ n sz t, b ≠ .front n sz t := by
  rcases hb with ⟨cs, hc⟩ | ⟨es, hc⟩ | ⟨t, s, cs, hc⟩ | ⟨t, cs, hc⟩ <;> exact ⟨_, hc, by simp, by simp⟩

theorem hide1_get (h : Heap) (a id : Nat) : (isBlk h a ∧ a = id ∧ (hide1 h a)[id]? = some .gone) ∨ (¬ (isBlk h a ∧ a = id) ∧ (hide1 h a)[id]? = h[id]?) := by
  unfold hide1
  cases hb : h[a]? with
  | none => exact .inr ⟨fun hh => (by obtain ⟨⟨_, h1⟩ | ⟨_, h1⟩ | ⟨_, _, _, h1⟩ | ⟨_, _, h1⟩, _⟩ := hh <;> rw [hb] at h1 <;> cases h1), rfl⟩
  | some b =>
    have hlt : a < h.length := (List.getElem?_eq_some_iff.1 hb).1
    cases b with
    | cells cs =>
      by_cases ha : a = id
      · subst ha; exact .inl ⟨.inl ⟨_, hb⟩, rfl, by simp [hlt]⟩
      · exact .inr ⟨fun h => ha h.2, by simp [List.getElem?_set, ha]⟩
    | map es =>
      by_cases ha : a = id
      · subst ha; exact .inl ⟨.inr (.inl ⟨_, hb⟩), rfl, by simp [hlt]⟩
      · exact .inr ⟨fun h => ha h.2, by simp [List.getElem?_set, ha]⟩
    | vec t s cs =>
      by_cases ha : a = id
      · subst ha; exact .inl ⟨.inr (.inr (.inl ⟨_, _, _, hb⟩)), rfl, by simp [hlt]⟩
      · exact .inr ⟨fun h => ha h.2, by simp [List.getElem?_set, ha]⟩
    | tcells t cs =>
      by_cases ha : a = id
      · subst ha; exact .inl ⟨.inr (.inr (.inr ⟨_, _, hb⟩)), rfl, by simp [hlt]⟩
      · exact .inr ⟨fun h => ha h.2, by simp [List.getElem?_set, ha]⟩
    | _ => exact .inr ⟨fun hh => (by obtain ⟨⟨_, h1⟩ | ⟨_, h1⟩ | ⟨_, _, _, h1⟩ | ⟨_, _, h1⟩, _⟩ := hh <;> rw [hb] at h1 <;> cases h1), rfl⟩

theorem hide_get (ids : List Nat) : ∀ (h : Heap) (id : Nat), (id ∈ ids ∧ isBlk h id ∧ (hide ids h)[id]? = some .gone) ∨ (¬ (id ∈ ids ∧ isBlk h id) ∧ (hide ids h)[id]? = h[id]?) := by
  induction ids with
  | nil => intro h id; exact .inr ⟨by simp, rfl⟩
  | cons a ids ih =>
    intro h id
    have hc : (hide (a :: ids) h) = hide ids (hide1 h a) := rfl
    rw [hc]
    rcases hide1_get h a id with ⟨h1, rfl, h3⟩ | ⟨h1, h2⟩
    · rcases ih (hide1 h a) a with ⟨h4, h5, h6⟩ | ⟨h4, h5⟩
      · exact .inl ⟨by simp, h1, h6⟩
      · exact .inl ⟨by simp, h1, h5.trans h3⟩
    · have hb : isBlk (hide1 h a) id ↔ isBlk h id := by unfold isBlk; rw [h2]
      rcases ih (hide1 h a) id with ⟨h4, h5, h6⟩ | ⟨h4, h5⟩
      · exact .inl ⟨by simp [h4], hb.1 h5, h6⟩
      · refine .inr ⟨fun hh => ?_, h5.trans h2⟩
        rcases List.mem_cons.1 hh.1 with he | he
        · exact h1 ⟨he ▸ hh.2, he.symm⟩
        · exact h4 ⟨he, hb.2 hh.2⟩

theorem unhide1_get (h r : Heap) (a id : Nat) (hlt : isBlk h a → a < r.length) : (isBlk h a ∧ a = id ∧ (unhide1 h r a)[id]? = h[id]?) ∨ (¬ (isBlk h a ∧ a = id) ∧ (unhide1 h r a)[id]? = r[id]?) := by
  unfold unhide1
  cases hb : h[a]? with
  | none => exact .inr ⟨fun hh => (by obtain ⟨⟨_, h1⟩ | ⟨_, h1⟩ | ⟨_, _, _, h1⟩ | ⟨_, _, h1⟩, _⟩ := hh <;> rw [hb] at h1 <;> cases h1), rfl⟩
  | some b =>
    cases b with
    | cells cs =>
      have := hlt (.inl ⟨_, hb⟩)
      by_cases ha : a = id
      · subst ha; exact .inl ⟨.inl ⟨_, hb⟩, rfl, by simp [this, hb]⟩
      · exact .inr ⟨fun h => ha h.2, by simp [List.getElem?_set, ha]⟩
    | map es =>
      have := hlt (.inr (.inl ⟨_, hb⟩))
      by_cases ha : a = id
      · subst ha; exact .inl ⟨.inr (.inl ⟨_, hb⟩), rfl, by simp [this, hb]⟩
      · exact .inr ⟨fun h => ha h.2, by simp [List.getElem?_set, ha]⟩
    | vec t s cs =>
      have := hlt (.inr (.inr (.inl ⟨_, _, _, hb⟩)))
      by_cases ha : a = id
      · subst ha; exact .inl ⟨.inr (.inr (.inl ⟨_, _, _, hb⟩)), rfl, by simp [this, hb]⟩
      · exact .inr ⟨fun h => ha h.2, by simp [List.getElem?_set, ha]⟩
    | tcells t cs =>
      have := hlt (.inr (.inr (.inr ⟨_, _, hb⟩)))
      by_cases ha : a = id
      · subst ha; exact .inl ⟨.inr (.inr (.inr ⟨_, _, hb⟩)), rfl, by simp [this, hb]⟩
      · exact .inr ⟨fun h => ha h.2, by simp [List.getElem?_set, ha]⟩
    | _ => exact .inr ⟨fun hh => (by obtain ⟨⟨_, h1⟩ | ⟨_, h1⟩ | ⟨_, _, _, h1⟩ | ⟨_, _, h1⟩, _⟩ := hh <;> rw [hb] at h1 <;> cases h1), rfl⟩

theorem unhide1_length (h r : Heap) (a : Nat) : (unhide1 h r a).length = r.length := by
  unfold unhide1; split <;> simp

theorem unhide_get (h : Heap) (ids : List Nat) : ∀ (r : Heap) (id : Nat), (∀ a ∈ ids, isBlk h a → a < r.length) →
    (id ∈ ids ∧ isBlk h id ∧ (unhide ids h r)[id]? = h[id]?) ∨ (¬ (id ∈ ids ∧ isBlk h id) ∧ (unhide ids h r)[id]? = r[id]?) := by
  induction ids with
  | nil => intro r id _; exact .inr ⟨by simp, rfl⟩
  | cons a ids ih =>
    intro r id hlt
    have hc : unhide (a :: ids) h r = unhide ids h (unhide1 h r a) := rfl
    rw [hc]
    have ih' := ih (unhide1 h r a) id fun b hb hbl => by rw [unhide1_length]; exact hlt b (by simp [hb]) hbl
    rcases unhide1_get h r a id (hlt a (by simp)) with ⟨h1, rfl, h3⟩ | ⟨h1, h2⟩
    · rcases ih' with ⟨h4, h5, h6⟩ | ⟨h4, h5⟩
      · exact .inl ⟨by simp, h1, h6⟩
      · exact .inl ⟨by simp, h1, h5.trans h3⟩
    · rcases ih' with ⟨h4, h5, h6⟩ | ⟨h4, h5⟩
      · exact .inl ⟨by simp [h4], h5, h6⟩
      · refine .inr ⟨fun hh => ?_, h5.trans h2⟩
        rcases List.mem_cons.1 hh.1 with he | he
        · exact h1 ⟨he ▸ hh.2, he.symm⟩
        · exact h4 ⟨he, hh.2⟩

theorem hide_sub (ids : List Nat) (h : Heap) : Sub h (hide ids h) where
  live := fun id ⟨b, h1, h2⟩ => by
    rcases hide_get ids h id with ⟨_, _, h5⟩ | ⟨_, h5⟩
    · exact ⟨_, h5, by simp⟩
    · exact ⟨b, h5.trans h1, h2⟩
  front := fun id n sz t hf => by
    rcases hide_get ids h id with ⟨_, h4, _⟩ | ⟨_, h5⟩
    · obtain ⟨b, h6, _, h7⟩ := h4.nf; rw [hf] at h6; cases h6; exact absurd rfl (h7 _ _ _)
    · exact h5.trans hf
  nf := fun id ⟨b, h1, h2, h3⟩ => by
    rcases hide_get ids h id with ⟨_, _, h5⟩ | ⟨_, h5⟩
    · exact ⟨_, h5, by simp, by simp⟩
    · exact ⟨b, h5.trans h1, h2, h3⟩

theorem hide_owner {G : Gh} {ids : List Nat} {h : Heap} {id b : Nat} (ho : owner G (hide ids h) id = some b) : owner G h id = some b ∧ ¬ (id ∈ ids ∧ isBlk h id) := by
  rcases hide_get ids h id with ⟨_, _, h5⟩ | ⟨h4, h5⟩
  · simp [owner, h5] at ho
  · refine ⟨?_, h4⟩
    unfold owner at *; rw [h5] at ho; exact ho

theorem BlkOk.sub {G : Gh} {h h' : Heap} {w : World} {id : Nat} {bl : ABlk} (s : Sub h h') (b : BlkOk G h w id bl) : BlkOk G h' w id bl := by
  cases bl with
  | cells cs =>
    obtain ⟨C, e, h1, h2, h3, h4⟩ := b
    exact ⟨C, e, h1, h2, h3, fun i v hv => ⟨(h4 i v hv).1, (h4 i v hv).2.sub s⟩⟩
  | tcells t cs =>
    obtain ⟨C, h1, h2, h3, h4⟩ := b
    exact ⟨C, h1, h2, h3, fun i v hv => ⟨(h4 i v hv).1, (h4 i v hv).2.sub s⟩⟩
  | map es =>
    obtain ⟨E, c, h1, h2, h3, h4, hst⟩ := b
    refine ⟨E, c, h1, h2, h3, fun i kv hkv => ?_, hst⟩
    obtain ⟨m, h5, h6, h7, h8⟩ := h4 i kv hkv
    exact ⟨m, h5, h6, h7, h8.sub s⟩
  | vec t sz cs =>
    obtain ⟨b', cap, C, e, g1, g2, g3, g4, g5, g6, g7, g8, g9⟩ := b
    exact ⟨b', cap, C, e, g1, g2, g3, g4, g5, g6, g7, g8, fun i v hv => ⟨(g9 i v hv).1, (g9 i v hv).2.sub s⟩⟩
  | _ => exact b

theorem Inv.hide {G : Gh} {h : Heap} {w : World} (i : Inv G h w) (ids : List Nat) : Inv G (hide ids h) w where
  ok := i.ok
  blk := fun id bl hb => by
    rcases hide_get ids h id with ⟨_, _, h5⟩ | ⟨h4, h5⟩
    · rw [h5] at hb; cases hb; trivial
    · exact (i.blk id bl (h5.symm.trans hb)).sub (hide_sub ids h)
  inj := fun a b c h1 h2 => i.inj a b c (hide_owner h1).1 (hide_owner h2).1

theorem owner_ex {G : Gh} {h : Heap} {w : World} {id : Nat} (i : Inv G h w) (hb : isBlk h id) : ∃ b, owner G h id = some b ∧ b < w.heap.size := by
  have key : ∀ b, owner G h id = some b → ∃ b, owner G h id = some b ∧ b < w.heap.size := fun b hb => ⟨b, hb, i.lt hb⟩
  rcases hb with ⟨cs, hb⟩ | ⟨es, hb⟩ | ⟨t, s, cs, hb⟩ | ⟨t, cs, hb⟩
  · exact key (G.blk id) (by rw [owner_eq hb]; rfl)
  · exact key (G.blk id) (by rw [owner_eq hb]; rfl)
  · obtain ⟨b, cap, C, e, g1, _⟩ := i.blk id _ hb
    exact key b (by rw [owner_eq hb]; simp [ownerB, g1, Value.ownBlock])
  · exact key (G.blk id) (by rw [owner_eq hb]; rfl)

theorem unhide_ok {G G' : Gh} {h h' : Heap} {w w' : World} {ids : List Nat} (i : Inv G h w) (x : Ext G (Hk.hide ids h) w G' h' w') (i' : Inv G' h' w') :
    Ext G h w G' (unhide ids h h') w' ∧ Inv G' (unhide ids h h') w' ∧ Sub h' (unhide ids h h') ∧ ∀ id ∈ ids, isBlk h id → (unhide ids h h')[id]? = h[id]? := by
  have gone : ∀ id, id ∈ ids → isBlk h id → h'[id]? = some .gone ∧ G'.blk id = G.blk id ∧ G'.cur id = G.cur id := by
    intro id h1 h2
    rcases hide_get ids h id with ⟨_, _, h5⟩ | ⟨h4, _⟩
    · obtain ⟨bl, h6, h7⟩ := x.kinds id _ h5
      cases bl <;> simp_all [Kind]
    · exact absurd ⟨h1, h2⟩ h4
  have get := fun id => unhide_get h ids h' id fun a ha hb => (List.getElem?_eq_some_iff.1 (gone a ha hb).1).1
  have sub : Sub h' (unhide ids h h') := by
    refine ⟨fun id ⟨b, h1, h2⟩ => ?_, fun id n sz t hf => ?_, fun id ⟨b, h1, h2, h3⟩ => ?_⟩
    · rcases get id with ⟨_, h4, h5⟩ | ⟨_, h5⟩
      · obtain ⟨b', h6, h7, _⟩ := h4.nf
        exact ⟨b', h5.trans h6, h7⟩
      · exact ⟨b, h5.trans h1, h2⟩
    · rcases get id with ⟨h3, h4, _⟩ | ⟨_, h5⟩
      · rw [(gone id h3 h4).1] at hf; cases hf
      · exact h5.trans hf
    · rcases get id with ⟨_, h4, h5⟩ | ⟨_, h5⟩
      · obtain ⟨b', h6, h7, h8⟩ := h4.nf
        exact ⟨b', h5.trans h6, h7, h8⟩
      · exact ⟨b, h5.trans h1, h2, h3⟩
  have own : ∀ id b, owner G' (unhide ids h h') id = some b → (id ∈ ids ∧ isBlk h id ∧ owner G h id = some b) ∨ (¬ (id ∈ ids ∧ isBlk h id) ∧ owner G' h' id = some b) := by
    intro id b ho
    rcases get id with ⟨h3, h4, h5⟩ | ⟨h4, h5⟩
    · obtain ⟨_, e1, e2⟩ := gone id h3 h4
      refine .inl ⟨h3, h4, ?_⟩
      unfold owner at ho ⊢
      rwa [h5, e1, e2] at ho
    · refine .inr ⟨h4, ?_⟩
      unfold owner at *; rw [h5] at ho; exact ho
  have ext : Ext G h w G' (unhide ids h h') w' := by
    refine ⟨x.os, x.tape, x.output, x.size, fun b hb hn => x.frame b hb fun id ho => hn id (hide_owner ho).1, x.hmono, fun id b ho hlt => ?_, fun id bl hb => ?_⟩
    · rcases own id b ho with ⟨_, _, h2⟩ | ⟨_, h2⟩
      · exact h2
      · exact (hide_owner (x.own id b h2 hlt)).1
    · rcases get id with ⟨h3, h4, h5⟩ | ⟨h4, h5⟩
      · refine ⟨bl, h5.trans hb, ?_⟩
        obtain ⟨_, e1, e2⟩ := gone id h3 h4
        cases bl <;> simp [Kind, e1, e2]
      · rcases hide_get ids h id with ⟨h6, h7, _⟩ | ⟨_, h7⟩
        · exact absurd ⟨h6, h7⟩ h4
        · obtain ⟨bl', h8, h9⟩ := x.kinds id bl (h7.trans hb)
          exact ⟨bl', h5.trans h8, h9⟩
  refine ⟨ext, ⟨i'.ok, fun id bl hb => ?_, fun a b c h1 h2 => ?_⟩, sub, fun id h1 h2 => ?_⟩
  · rcases get id with ⟨h3, h4, h5⟩ | ⟨h4, h5⟩
    · have hb' : h[id]? = some bl := h5.symm.trans hb
      obtain ⟨_, e1, e2⟩ := gone id h3 h4
      refine (i.blk id bl hb').keep ext.toMono e1 e2 fun b ho => ?_
      refine x.frame b (i.lt (by rw [owner_eq hb']; exact ho)) fun j hj => ?_
      obtain ⟨h6, h7⟩ := hide_owner hj
      have := i.inj j id _ h6 (by rw [owner_eq hb']; exact ho)
      subst this
      exact h7 ⟨h3, h4⟩
    · exact (i'.blk id bl (h5.symm.trans hb)).sub sub
  · rcases own a c h1 with ⟨_, a2, a3⟩ | ⟨a1, a2⟩ <;> rcases own b _ h2 with ⟨_, b2, b3⟩ | ⟨b1, b2⟩
    · exact i.inj a b _ a3 b3
    · exact i.inj a b _ a3 (hide_owner (x.own b _ b2 (i.lt a3))).1
    · exact i.inj a b _ (hide_owner (x.own a _ a2 (i.lt b3))).1 b3
    · exact i'.inj a b c a2 b2
  · rcases get id with ⟨_, _, h5⟩ | ⟨h4, _⟩
    · exact h5
    · exact absurd ⟨h1, h2⟩ h4

/-! ### A call that sees the blocks below m alone -/
section
variable {G G' : Gh} {h h' : Heap} {w : World} {m : Nat}

/-- What is left of the relation when the blocks from m on are dropped. -/
structure Left (G : Gh) (h : Heap) (G' : Gh) (h' : Heap) (m : Nat) : Prop where
  hmono : ∀ b k v, G.H b k = some v → G'.H b k = some v
  blk : G'.blk = G.blk
  cur : G'.cur = G.cur
  live : ∀ id, id < m → Hk.live h id → Hk.live h' id
  front : ∀ (id n sz t : Nat), id < m → h[id]? = some (.front n sz t) → h'[id]? = some (.front n sz t)
  nf : ∀ id, id < m → noFront h id → noFront h' id

theorem shut0_rel (l : Left G h G' h' m) {v : AVal} {V : Value} (hs : v.shut0 m = true) (r : RelV G h v V) : RelV G' h' v V := by
  cases r with
  | p v V hp => exact .p v V (hp.mono l.hmono)
  | agg cs C hl hh => simp [AVal.shut0] at hs
  | tuple cs C hl hh => simp [AVal.shut0] at hs
  | nil => exact .nil
  | own rows id n sz V hp hf hn hr hc =>
    have hid : id < m := by simpa [AVal.shut0, refOf] using hs
    exact .own rows id n sz V (hp.mono l.hmono) (l.front _ _ _ _ hid hf) hn hr (by rw [l.cur]; exact hc)
  | ownv id V hp hb =>
    have hid : id < m := by simpa [AVal.shut0, refOf] using hs
    exact .ownv id V (hp.mono l.hmono) (l.nf _ hid hb)
  | vslice id tot off len sz b cap hl ht hc hv =>
    have hid : id < m := by simpa [AVal.shut0, refOf] using hs
    exact .vslice id tot off len sz b cap (l.nf _ hid hl) (by rw [l.cur]; exact ht) hc (by rw [l.cur]; exact hv)
  | vptr id tot off b hl ht hv =>
    have hid : id < m := by simpa [AVal.shut0, refOf] using hs
    exact .vptr id tot off b (l.nf _ hid hl) (by rw [l.cur]; exact ht) (by rw [l.cur]; exact hv)
  | ptr id off hl =>
    have hid : id < m := by simpa [AVal.shut0, refOf] using hs
    rw [← l.blk]; exact .ptr id off (l.live _ hid hl)
  | mslice id off len sz cap hl hc =>
    have hid : id < m := by simpa [AVal.shut0, refOf] using hs
    rw [← l.blk]; exact .mslice id off len sz cap (l.live _ hid hl) hc
  | mslice0 id off sz cap a => exact .mslice0 id off sz cap a
  | map id hl =>
    have hid : id < m := by simpa [AVal.shut0, refOf] using hs
    rw [← l.blk]; exact .map id (l.live _ hid hl)
  | func f first cap F C hlf hlc hf hc =>
    simp only [AVal.shut0, Bool.and_eq_true, List.isEmpty_iff] at hs
    obtain ⟨rfl, rfl⟩ := hs
    exact .func f [] [] F C hlf hlc (by simp) (by simp)
  | iface t v V hh => simp [AVal.shut0] at hs

theorem shut1_rel (l : Left G h G' h' m) {v : AVal} {V : Value} (hs : v.shut1 m = true) (r : RelV G h v V) : RelV G' h' v V := by
  cases v with
  | agg cs =>
    obtain ⟨C, rfl, hl, hr⟩ := r.agg_inv
    simp only [AVal.shut1, List.all_eq_true] at hs
    exact .agg cs C hl fun i u hu => shut0_rel l (hs u (List.mem_of_getElem? hu)) (hr i u hu)
  | iface t v =>
    obtain ⟨W, rfl, hr⟩ := r.iface_inv
    exact .iface t v W (shut0_rel l hs hr)
  | func f first cap =>
    obtain ⟨F, C, rfl, hlf, hlc, hf, hc⟩ := r.func_inv
    simp only [AVal.shut1, Bool.and_eq_true, List.all_eq_true] at hs
    exact .func f first cap F C hlf hlc (fun i u hu => shut0_rel l (hs.1 u (List.mem_of_getElem? hu)) (hf i u hu)) (fun i u hu => shut0_rel l (hs.2 u (List.mem_of_getElem? hu)) (hc i u hu))
  | _ => exact shut0_rel l hs r

theorem take_get {id : Nat} {b : ABlk} (hb : (h.take m)[id]? = some b) : id < m ∧ h[id]? = some b := by
  rw [List.getElem?_take] at hb
  split at hb
  · rename_i hlt; exact ⟨hlt, hb⟩
  · cases hb
theorem take_owner {id b : Nat} (ho : owner G (h.take m) id = some b) : id < m ∧ owner G h id = some b := by
  obtain ⟨bl, h1, h2⟩ := owner_some ho
  obtain ⟨h3, h4⟩ := take_get h1
  exact ⟨h3, by rw [owner_eq h4]; exact h2⟩
theorem left_take : Left G h G (h.take m) m where
  hmono := fun _ _ _ h => h
  blk := rfl
  cur := rfl
  live := fun id hid ⟨b, h1, h2⟩ => ⟨b, by rw [List.getElem?_take, if_pos hid]; exact h1, h2⟩
  front := fun id n sz t hid hf => by rw [List.getElem?_take, if_pos hid]; exact hf
  nf := fun id hid ⟨b, h1, h2⟩ => ⟨b, by rw [List.getElem?_take, if_pos hid]; exact h1, h2⟩
theorem Inv.take (i : Inv G h w) (hs : (h.take m).all (blkShut m) = true) : Inv G (h.take m) w where
  ok := i.ok
  blk := fun id bl hb => by
    obtain ⟨h1, h2⟩ := take_get hb
    have h3 : blkShut m bl = true := List.all_eq_true.1 hs bl (List.mem_of_getElem? hb)
    have h4 := i.blk id bl h2
    cases bl with
    | cells cs =>
      simp only [blkShut, List.all_eq_true] at h3
      obtain ⟨C, e, g1, g2, g3, g4⟩ := h4
      exact ⟨C, e, g1, g2, g3, fun j v hv => ⟨(g4 j v hv).1, shut1_rel left_take (h3 v (List.mem_of_getElem? hv)) (g4 j v hv).2⟩⟩
    | tcells t cs =>
      simp only [blkShut, List.all_eq_true] at h3
      obtain ⟨C, g1, g2, g3, g4⟩ := h4
      exact ⟨C, g1, g2, g3, fun j v hv => ⟨(g4 j v hv).1, shut1_rel left_take (h3 v (List.mem_of_getElem? hv)) (g4 j v hv).2⟩⟩
    | map es =>
      simp only [blkShut, List.all_eq_true] at h3
      obtain ⟨C, e, g1, g2, g3, g4, hst⟩ := h4
      refine ⟨C, e, g1, g2, g3, fun j kv hv => ?_, hst⟩
      obtain ⟨mm, g5, g6, g7, g8⟩ := g4 j kv hv
      exact ⟨mm, g5, g6, g7, shut1_rel left_take (h3 kv (List.mem_of_getElem? hv)) g8⟩
    | vec t sz cs =>
      simp only [blkShut, List.all_eq_true] at h3
      obtain ⟨b', cap, C, e, g1, g2, g3, g4, g5, g6, g7, g8, g9⟩ := h4
      exact ⟨b', cap, C, e, g1, g2, g3, g4, g5, g6, g7, g8, fun j v hv => ⟨(g9 j v hv).1, shut1_rel left_take (h3 v (List.mem_of_getElem? hv)) (g9 j v hv).2⟩⟩
    | _ => exact h4
  inj := fun a b c h1 h2 => i.inj a b c (take_owner h1).2 (take_owner h2).2

theorem splice {t : Heap} {w' : World} (i : Inv G h w) (x : Ext G (h.take m) w G' t w') (i' : Inv G' t w') (ht : t.length = m) :
    ∃ G2, Ext G h w G2 (t ++ h.drop m) w' ∧ Inv G2 (t ++ h.drop m) w' ∧ Mono G' t G2 (t ++ h.drop m) := by
  let G2 : Gh := { H := G'.H, blk := fun id => if id < m then G'.blk id else G.blk id, cur := fun id => if id < m then G'.cur id else G.cur id }
  have b1 : ∀ id, id < m → G2.blk id = G'.blk id := fun id hid => if_pos hid
  have c1 : ∀ id, id < m → G2.cur id = G'.cur id := fun id hid => if_pos hid
  have b2 : ∀ id, ¬ id < m → G2.blk id = G.blk id := fun id hid => if_neg hid
  have c2 : ∀ id, ¬ id < m → G2.cur id = G.cur id := fun id hid => if_neg hid
  have g1 : ∀ id, id < m → (t ++ h.drop m)[id]? = t[id]? := fun id hid => List.getElem?_append_left (by omega)
  have g2 : ∀ id, ¬ id < m → (t ++ h.drop m)[id]? = h[id]? := fun id hid => by
    rw [List.getElem?_append_right (by omega), List.getElem?_drop, ht, show m + (id - m) = id by omega]
  have kn : ∀ {A B C D : Gh} {id : Nat} {x y : ABlk}, C.blk id = A.blk id → C.cur id = A.cur id → D.blk id = B.blk id → D.cur id = B.cur id → Kind A B id x y → Kind C D id x y := by
    intro A B C D id x y e1 e2 e3 e4 hk
    cases x <;> cases y <;> simp_all [Kind]
  have own : ∀ id b, owner G2 (t ++ h.drop m) id = some b → (id < m ∧ owner G' t id = some b) ∨ (¬ id < m ∧ owner G h id = some b) := by
    intro id b ho
    by_cases hid : id < m
    · refine .inl ⟨hid, ?_⟩
      unfold owner at ho ⊢
      rwa [g1 id hid, b1 id hid, c1 id hid] at ho
    · refine .inr ⟨hid, ?_⟩
      unfold owner at ho ⊢
      rwa [g2 id hid, b2 id hid, c2 id hid] at ho
  have ext : Ext G h w G2 (t ++ h.drop m) w' := by
    refine ⟨x.os, x.tape, x.output, x.size, fun b hb hn => x.frame b hb fun id ho => hn id (take_owner ho).2, x.hmono, fun id b ho hlt => ?_, fun id bl hb => ?_⟩
    · rcases own id b ho with ⟨_, h2⟩ | ⟨_, h2⟩
      · exact (take_owner (x.own id b h2 hlt)).2
      · exact h2
    · by_cases hid : id < m
      · obtain ⟨bl', h1, h2⟩ := x.kinds id bl (by rw [List.getElem?_take, if_pos hid]; exact hb)
        exact ⟨bl', by rw [g1 id hid]; exact h1, kn rfl rfl (b1 id hid) (c1 id hid) h2⟩
      · exact ⟨bl, by rw [g2 id hid]; exact hb, kn rfl rfl (b2 id hid) (c2 id hid) (Kind.refl G id bl)⟩
  have mono : Mono G' t G2 (t ++ h.drop m) := ⟨fun _ _ _ h => h, fun id bl hb => by
    have hid : id < m := by rw [← ht]; exact (List.getElem?_eq_some_iff.1 hb).1
    exact ⟨bl, by rw [g1 id hid]; exact hb, kn rfl rfl (b1 id hid) (c1 id hid) (Kind.refl G' id bl)⟩⟩
  refine ⟨G2, ext, ⟨i'.ok, fun id bl hb => ?_, fun a b c ha hb => ?_⟩, mono⟩
  · by_cases hid : id < m
    · rw [g1 id hid] at hb
      exact (i'.blk id bl hb).keep mono (b1 id hid) (c1 id hid) fun b _ => ⟨rfl, fun _ => rfl⟩
    · rw [g2 id hid] at hb
      refine (i.blk id bl hb).keep ext.toMono (b2 id hid) (c2 id hid) fun b ho => ?_
      refine x.frame b ((i.blk id bl hb).lt ho) fun j hj => ?_
      obtain ⟨j1, j2⟩ := take_owner hj
      have := i.inj j id b j2 (by rw [owner_eq hb]; exact ho)
      omega
  · rcases own a c ha with ⟨a1, a2⟩ | ⟨a1, a2⟩ <;> rcases own b c hb with ⟨b1, b2⟩ | ⟨b1, b2⟩
    · exact i'.inj a b c a2 b2
    · have := i.inj a b c (take_owner (x.own a c a2 (i.lt b2))).2 b2
      omega
    · have := i.inj a b c a2 (take_owner (x.own b c b2 (i.lt a2))).2
      omega
    · exact i.inj a b c a2 b2

end
end
section
open Go Go.RowKit

section
variable {J : Act → Prop} {cx : Cx} {o : Oper} {ρ : List AVal} {h : Heap} {kv kp : AVal → Heap → Option R} {r : R} {ids : List Nat} {ops : Array Oper} {G : Gh} {w : World} {a : Act} {Q : Exit → Act → World → Prop} {K : Act → World → Prop}

theorem evalLocked_sound (hX : ExtOk cx.P cx.A) (hK : SoundK cx.P cx.A cx.K) (hb : evalLocked cx o ids ρ h kv kp = some r) (i : Inv G h w) (gl : GlobOk cx.A G h w) (s : Slots J G h ρ a)
    (hkv : ∀ v h' G' w' V, kv v h' = some r → Ext G h w G' h' w' → Inv G' h' w' → RelV G' h' v V → (∀ id ∈ ids, isBlk h id → h'[id]? = h[id]?) → K (a.put o.dst V) w')
    (hkp : KpOk kp r G h w a Q) : o.wp cx.P a w K Q := by
  unfold evalLocked at hb
  cases hc : cx.ck with
  | true =>
    rw [hc] at hb
    refine evalOp_sound hX hK none hb i gl s (fun v h' G' w' V hk x i' rv => ?_) hkp
    obtain ⟨h1, h2⟩ := chk_some.1 hk
    exact hkv v h' G' w' V h2 x i' rv fun id hid hb => by
      obtain ⟨b, hb, _⟩ := hb.nf
      rw [h1 id hid b hb, hb]
  | false =>
  rw [hc] at hb
  simp only [cond_false] at hb
  refine evalOp_sound hX hK none hb (i.hide ids) (gl.sub rfl fun id b ho => ⟨id, (hide_owner ho).1⟩) ⟨s.len, fun j v hv => (s.rel j v hv).sub (hide_sub ids h), s.df⟩ ?_ ?_
  · intro v h' G' w' V hk x i' rv
    obtain ⟨x2, i2, sb, kp2⟩ := unhide_ok i x i'
    exact hkv v _ G' w' V hk x2 i2 (rv.sub sb) kp2
  · intro v h' G' w' V hk x i' rv
    obtain ⟨x2, i2, sb, kp2⟩ := unhide_ok i x i'
    exact hkp v _ G' w' V hk x2 i2 (rv.sub sb)

theorem yielded_bool {j d : Nat} {g : Bool} (hd : (ops.toList[j]?).bind (·.dst) = some d) (s : Slots J G h ρ a) (hg : ρ.getD d .junk = .bool g) : yielded ops a.tmps j = some g := by
  have h1 := s.get d
  rw [hg] at h1
  have h2 := h1.bool_inv
  have h3 : a.tmps[d]? = some (.bool g) := by
    rw [Array.getD_eq_getD_getElem?] at h2
    cases h4 : a.tmps[d]? with
    | none => rw [h4] at h2; cases h2
    | some v => rw [h4] at h2; simp at h2; rw [h2]
  rw [Array.getElem?_toList] at hd
  simp [yielded, hd, h3]

theorem yielded_none {j d : Nat} (hd : (ops.toList[j]?).bind (·.dst) = some d) (s : Slots J G h ρ a) (hg : ρ.getD d .junk = .tuple []) : yielded ops a.tmps j = none := by
  have h1 := s.get d
  rw [hg] at h1
  have h2 := h1.tuple0_inv
  rw [Array.getElem?_toList] at hd
  unfold yielded
  rw [hd]
  simp only [Option.bind_some]
  rw [Array.getD_eq_getD_getElem?] at h2
  cases h4 : a.tmps[d]? with
  | none => rfl
  | some v => rw [h4] at h2; simp at h2; rw [h2]; rfl

theorem evalItem_sound0 {n : Nat} (hX : ExtOk cx.P cx.A) (hK : SoundK cx.P cx.A cx.K) (hn : ops[n]? = some o) (hb : evalItem cx ops.toList o ids ρ h kv kp = some r) (i : Inv G h w) (gl : GlobOk cx.A G h w) (s : Slots J G h ρ a)
    (hkv : ∀ v h' G' w' V, kv v h' = some r → Ext G h w G' h' w' → Inv G' h' w' → RelV G' h' v V → (∀ id ∈ ids, isBlk h id → h'[id]? = h[id]?) → K (a.put o.dst V) w')
    (hkp : KpOk kp r G h w a Q) : wpOp cx.P ops Q n K a w := by
  unfold wpOp
  simp only [hn]
  have skip : kv (.tuple []) h = some r → K (a.put o.dst undef) w := fun hk =>
    hkv _ h G w _ hk (Ext.refl G h w) i (.p _ _ (.tuple [] #[] rfl (by simp))) fun _ _ _ => rfl
  have run : evalLocked cx o ids ρ h kv kp = some r → o.wp cx.P a w K Q := fun hb => evalLocked_sound hX hK hb i gl s hkv hkp
  rw [evalItem_eq] at hb
  unfold evalItemC at hb
  cases hg : o.guard with
  | none =>
    simp only [hg] at hb
    rw [if_pos (by simp [Region.wanted, hg])]
    exact .inl (run hb)
  | some jw =>
    obtain ⟨j, want⟩ := jw
    simp only [hg] at hb
    cases hd : (ops.toList[j]?).bind (·.dst) with
    | none => simp only [hd] at hb; cases hb
    | some d =>
      simp only [hd] at hb
      split at hb
      · rename_i g hgv
        have hy := yielded_bool hd s hgv
        cases want <;> cases g <;> simp only [cond_true, cond_false] at hb
        · rw [if_pos (by simp [Region.wanted, hg, hy])]; exact .inl (run hb)
        · rw [if_neg (by simp [Region.wanted, hg, hy])]; exact skip hb
        · rw [if_neg (by simp [Region.wanted, hg, hy])]; exact skip hb
        · rw [if_pos (by simp [Region.wanted, hg, hy])]; exact .inl (run hb)
      · rename_i hgv
        have hy := yielded_none hd s hgv
        rw [if_neg (by simp [Region.wanted, hg, hy])]; exact skip hb
      · cases hb

open Classical in
theorem evalItem_sound (hrb : cx.rb = false) {n : Nat} (hX : ExtOk cx.P cx.A) (hK : SoundK cx.P cx.A cx.K) (hn : ops[n]? = some o) (hb : evalItem cx ops.toList o ids ρ h kv kp = some r) (hids : isEff o = false → ids = []) (i : Inv G h w) (gl : GlobOk cx.A G h w) (s : Slots J G h ρ a)
    (hkv : ∀ v h' G' w' V, kv v h' = some r → Ext G h w G' h' w' → Inv G' h' w' → RelV G' h' v V → ((isEff o = false → h' = h) ∧ ∀ id ∈ ids, isBlk h id → h'[id]? = h[id]?) → K (a.put o.dst V) w')
    (hkp : KpOk kp r G h w a Q) : wpOp cx.P ops Q n K a w := by
  cases he : isEff o with
  | true => exact evalItem_sound0 hX hK hn hb i gl s (fun v h' G' w' V h1 h2 h3 h4 h5 => hkv v h' G' w' V h1 h2 h3 h4 ⟨fun h => (by rw [he] at h; cases h), h5⟩) hkp
  | false =>
    cases hids he
    obtain ⟨v0, h1, h2⟩ := light_item hrb he hb
    have h3 := h2 h (fun v h' => if v = v0 ∧ h' = h then some r else none) (fun _ _ => none) fun _ _ _ => rfl
    simp only [and_self, if_true] at h3
    refine evalItem_sound0 hX hK hn h3 i gl s (fun v h' G' w' V h4 h5 h6 h7 h8 => ?_) (fun v h' G' w' V h4 => by cases h4)
    split at h4
    · rename_i hvh
      obtain ⟨rfl, rfl⟩ := hvh
      exact hkv _ _ G' w' V h1 h5 h6 h7 ⟨fun _ => rfl, h8⟩
    · cases h4

theorem evalHid_sound {m : Nat} (hX : ExtOk cx.P cx.A) (hK : SoundK cx.P cx.A cx.K) (hb : evalHid cx o m ids ρ h kv = some r) (i : Inv G h w) (gl : GlobOk cx.A G h w) (s : Slots J G h ρ a)
    (hkv : ∀ v h' G' w' V, kv v h' = some r → Ext G h w G' h' w' → Inv G' h' w' → RelV G' h' v V → (∀ id ∈ ids, isBlk h id → h'[id]? = h[id]?) → K (a.put o.dst V) w') : o.wp cx.P a w K Q := by
  unfold evalHid at hb
  cases hs : (h.take m).all (blkShut m) with
  | false => rw [hs] at hb; cases hb
  | true =>
    rw [hs] at hb
    simp only [cond_true] at hb
    obtain ⟨r0, h1, h2⟩ := Option.bind_eq_some_iff.1 hb
    unfold hidK at h2
    split at h2
    · rename_i v t
      cases hl : t.length == m with
      | false => rw [hl] at h2; cases h2
      | true =>
        rw [hl] at h2
        simp only [cond_true] at h2
        have hl : t.length = m := by simpa using hl
        have s2 : Slots J G (h.take m) (ρ.map (shutOr m)) a := ⟨by rw [List.length_map]; exact s.len, fun j u hu => by
          rw [List.getElem?_map] at hu
          cases hj : ρ[j]? with
          | none => rw [hj] at hu; cases hu
          | some u0 =>
            rw [hj] at hu
            simp only [Option.map_some, Option.some.injEq] at hu
            subst hu
            unfold shutOr
            cases hsh : u0.shut1 m with
            | true => exact shut1_rel left_take hsh (s.rel j u0 hj)
            | false => exact .p _ _ (.junk _), s.df⟩
        refine evalLocked_sound hX hK h1 (i.take hs) (gl.sub rfl fun id b ho => by
          obtain ⟨bl, h1', h2'⟩ := owner_some ho
          have h3' : h[id]? = some bl := by
            rw [List.getElem?_take] at h1'
            split at h1'
            · exact h1'
            · cases h1'
          exact ⟨id, by rw [owner_eq h3']; exact h2'⟩) s2 (fun v' h' G' w' V e1 e2 e3 e4 e5 => ?_) (fun v' h' G' w' V e1 => by simp [kp0] at e1)
        simp only [kv0, Option.some.injEq, Prod.mk.injEq, List.cons.injEq, and_true, true_and] at e1
        obtain ⟨rfl, rfl⟩ := e1
        obtain ⟨G2, x2, i2, m2⟩ := splice i e2 e3 hl
        refine hkv _ _ G2 w' V h2 x2 i2 (e4.mono m2) fun id hid hblk => ?_
        by_cases hlt : id < m
        · rw [List.getElem?_append_left (by omega)]
          have : (h.take m)[id]? = h[id]? := by rw [List.getElem?_take, if_pos hlt]
          rw [e5 id hid (by unfold isBlk at hblk ⊢; rwa [this]), this]
        · rw [List.getElem?_append_right (by omega), List.getElem?_drop, hl, show m + (id - m) = id by omega]
    · cases h2

open Classical in
theorem evalItemF_sound (hrb : cx.rb = false) {n m : Nat} {it : Item} (hX : ExtOk cx.P cx.A) (hK : SoundK cx.P cx.A cx.K) (hn : ops[n]? = some it.o) (hb : evalItemF cx ops.toList m it ids ρ h kv kp = some r) (hids : isEff it.o = false → ids = []) (i : Inv G h w) (gl : GlobOk cx.A G h w) (s : Slots J G h ρ a)
    (hkv : ∀ v h' G' w' V, kv v h' = some r → Ext G h w G' h' w' → Inv G' h' w' → RelV G' h' v V → Keep it m ids h h' → K (a.put it.o.dst V) w')
    (hkp : KpOk kp r G h w a Q) : wpOp cx.P ops Q n K a w := by
  have hf0 := hb
  unfold evalItemF at hb
  cases hr : it.rsv with
  | some j =>
    simp only [hr] at hb
    cases hf : isFloatOp it.o with
    | false => rw [hf] at hb; cases hb
    | true =>
      rw [hf] at hb
      simp only [cond_true] at hb
      obtain ⟨v0, b, f1, f2, f3⟩ := float_op hf hb
      have f4 := f3 h (fun v h' => if v = v0 ∧ h' = h.set (m + j) b then some r else none) (fun _ _ => none) f1
      simp only [and_self, if_true] at f4
      have hg : it.o.guard = none := by
        unfold isFloatOp at hf
        simp only [Bool.and_eq_true, Option.isNone_iff_eq_none] at hf
        exact hf.1
      unfold wpOp
      simp only [hn]
      rw [if_pos (by simp [Region.wanted, hg])]
      refine .inl (evalOp_sound hX hK _ f4 i gl s (fun v h' G' w' V e1 e2 e3 e4 => ?_) (fun v h' G' w' V e1 => by cases e1))
      split at e1
      · rename_i hvh
        obtain ⟨rfl, rfl⟩ := hvh
        refine hkv _ _ G' w' V f2 e2 e3 e4 ⟨fun he => (by rw [float_eff hf] at he; cases he), fun id _ hbl => ?_, fun j' hj' => ?_, fun hn => (by rw [hr] at hn; cases hn)⟩
        · refine List.getElem?_set_ne fun hji => ?_
          subst hji
          exact notBlk f1 hbl
        · rw [hr] at hj'; cases hj'
          exact ⟨b, f1, rfl⟩
      · cases e1
  | none =>
    simp only [hr] at hb
    cases hh : it.hid with
    | true =>
      rw [hh] at hb
      simp only [cond_true] at hb
      cases hf : isCallOp it.o with
      | false => rw [hf] at hb; cases hb
      | true =>
        rw [hf] at hb
        simp only [cond_true] at hb
        obtain ⟨v0, t, f1, f2, f3⟩ := hid_op hb
        have f4 := f3 h (fun v h' => if v = v0 ∧ h' = t ++ h.drop m then some r else none) rfl
        simp only [and_self, if_true] at f4
        have hg : it.o.guard = none := by
          unfold isCallOp at hf
          simp only [Bool.and_eq_true, Option.isNone_iff_eq_none] at hf
          exact hf.1
        unfold wpOp
        simp only [hn]
        rw [if_pos (by simp [Region.wanted, hg])]
        refine .inl (evalHid_sound hX hK f4 i gl s (fun v h' G' w' V e1 e2 e3 e4 e5 => ?_))
        split at e1
        · rename_i hvh
          obtain ⟨rfl, rfl⟩ := hvh
          exact hkv _ _ G' w' V f2 e2 e3 e4 ⟨fun he => (by rw [call_eff hf] at he; cases he), e5, fun j hj => (by rw [hr] at hj; cases hj), fun _ _ => ⟨t, f1, rfl⟩⟩
        · cases e1
    | false =>
      rw [hh] at hb
      simp only [cond_false] at hb
      refine evalItem_sound hrb hX hK hn hb hids i gl s (fun v h' G' w' V e1 e2 e3 e4 e5 => ?_) hkp
      exact hkv v h' G' w' V e1 e2 e3 e4 ⟨e5.1, e5.2, fun j hj => (by rw [hr] at hj; cases hj), fun _ hh' => (by rw [hh] at hh'; cases hh')⟩

/-- Operations that leave alone what a frame is known to be. -/
def JOps (J : Act → Prop) (ops : List Oper) : Prop := ∀ o ∈ ops, ∀ (a : Act) (V : Value), J a → J (a.put o.dst V)
theorem JOps.at {ops : Array Oper} (hJ : JOps J ops.toList) {n : Nat} {o : Oper} (hn : ops[n]? = some o) {a : Act} {V : Value} (h : J a) : J (a.put o.dst V) :=
  hJ o (List.mem_of_getElem? (by rw [Array.getElem?_toList]; exact hn)) a V h

/-! ### In the order of the text -/

theorem items_plainL {k : List AVal → Heap → Option R} (l2 : List Nat) (hJ : JOps J ops.toList) (hX : ExtOk cx.P cx.A) (hK : SoundK cx.P cx.A cx.K) : ∀ (items : List Item) (seen ρ : List AVal) (h : Heap) (G : Gh) (w : World) (a : Act),
    (∀ it ∈ items, ops[it.i]? = some it.o ∧ it.locks = [] ∧ it.rsv = none ∧ it.hid = false) → evalItems cx ops.toList 0 items seen ρ h k kp = some r → Inv G h w → GlobOk cx.A G h w → Slots J G h ρ a →
    (∀ ρ' h' G' w' a', k ρ' h' = some r → Ext G h w G' h' w' → Inv G' h' w' → Slots J G' h' ρ' a' → wpOps cx.P ops Q l2 a' w') →
    (∀ v h' G' w' V a', kp v h' = some r → Ext G h w G' h' w' → Inv G' h' w' → RelV G' h' v V → J a' → Q (.panic [{ v := V, recovered := false }]) a' w') →
    wpOps cx.P ops Q (items.map (·.i) ++ l2) a w := by
  intro items
  induction items with
  | nil => intro seen ρ h G w a _ hb i gl s hk _; exact hk _ _ G w a hb (Ext.refl G h w) i s
  | cons it rest ih =>
    intro seen ρ h G w a hit hb i gl s hk hkp
    obtain ⟨h1, h2, h3, h4⟩ := hit it (by simp)
    simp only [evalItems, forceL_eq, evalItemF, h3, h4, cond_false, h2, lockIds, List.filterMap_nil] at hb
    rw [List.map_cons, List.cons_append, wpOps_cons]
    refine evalItem_sound0 hX hK h1 hb i gl s (fun v h' G' w' V e1 e2 e3 e4 _ => ?_) (fun v h' G' w' V e1 e2 e3 e4 => hkp v h' G' w' V a e1 e2 e3 e4 s.df)
    exact ih _ _ _ G' w' _ (fun x hx => hit x (by simp [hx])) e1 e3 (gl.mono e2) ((s.mono e2.toMono).put it.o.dst e4 (hJ.at h1 s.df))
      (fun ρ' h'' G'' w'' a' f1 f2 f3 f4 => hk ρ' h'' G'' w'' a' f1 (e2.trans f2) f3 f4)
      (fun v h'' G'' w'' V a' f1 f2 f3 f4 f5 => hkp v h'' G'' w'' V a' f1 (e2.trans f2) f3 f4 f5)

theorem items_plain {k : List AVal → Heap → Option R} (hJ : JOps J ops.toList) (hX : ExtOk cx.P cx.A) (hK : SoundK cx.P cx.A cx.K) (items : List Item) (seen ρ : List AVal) (h : Heap) (G : Gh) (w : World) (a : Act)
    (h1 : ∀ it ∈ items, ops[it.i]? = some it.o ∧ it.locks = [] ∧ it.rsv = none ∧ it.hid = false) (h2 : evalItems cx ops.toList 0 items seen ρ h k kp = some r) (h3 : Inv G h w) (h4 : GlobOk cx.A G h w) (h5 : Slots J G h ρ a)
    (h6 : ∀ ρ' h' G' w' a', k ρ' h' = some r → Ext G h w G' h' w' → Inv G' h' w' → Slots J G' h' ρ' a' → Q .normal a' w')
    (h7 : ∀ v h' G' w' V a', kp v h' = some r → Ext G h w G' h' w' → Inv G' h' w' → RelV G' h' v V → J a' → Q (.panic [{ v := V, recovered := false }]) a' w') :
    wpOps cx.P ops Q (items.map (·.i)) a w := by
  have := items_plainL [] hJ hX hK items seen ρ h G w a h1 h2 h3 h4 h5 h6 h7
  rwa [List.append_nil] at this

theorem plainItems_spec : (plainItems ops.toList).map (·.i) = List.range ops.size ∧ ∀ it ∈ plainItems ops.toList, ops[it.i]? = some it.o ∧ it.locks = [] ∧ it.rsv = none ∧ it.hid = false := by
  constructor
  · apply List.ext_getElem?
    intro j
    simp only [plainItems, List.map_map, List.getElem?_map, List.getElem?_zipIdx, List.getElem?_range', Array.getElem?_toList]
    by_cases hj : j < ops.size
    · simp [hj]
    · simp [hj]
  · intro it hit
    simp only [plainItems, List.mem_map] at hit
    obtain ⟨⟨o, i⟩, h1, rfl⟩ := hit
    have := List.mem_zipIdx_iff_getElem?.1 h1
    simp only [Array.getElem?_toList] at this
    exact ⟨this, rfl, rfl, rfl⟩

/-! ### In every order -/

/-- The edges of a region, and what hangs on what. -/
def Edges (ops : Array Oper) (listed : Array Bool) (i : Nat) : Prop := ∀ o, ops[i]? = some o → ∀ e ∈ o.after, Region.binds .any e = true → listed.getD e.on false = true

theorem testBit_bitOf {t p : Nat} : (bitOf t).testBit p = decide (t = p) := by
  unfold bitOf
  rw [Nat.one_shiftLeft, Nat.testBit_two_pow]

theorem clos_fold {P : Nat → Prop} (acc : List Nat) : ∀ (es : List Edge) (m : Nat), (∀ p, m.testBit p = true → P p) →
    (∀ e ∈ es, Region.binds .any e = true → P e.on ∧ ∀ p, (acc.getD e.on 0).testBit p = true → P p) →
    ∀ p, (es.foldl (fun m e => bif Region.binds .any e then m ||| bitOf e.on ||| acc.getD e.on 0 else m) m).testBit p = true → P p := by
  intro es
  induction es with
  | nil => intro m hm _ p hp; exact hm p hp
  | cons e es ih =>
    intro m hm he p hp
    refine ih _ (fun q hq => ?_) (fun x hx => he x (by simp [hx])) p hp
    cases hbd : Region.binds .any e with
    | false => simp only [hbd, cond_false] at hq; exact hm q hq
    | true =>
      simp only [hbd, cond_true, Nat.testBit_or, Bool.or_eq_true, testBit_bitOf, decide_eq_true_eq] at hq
      obtain ⟨h1, h2⟩ := he e (by simp) hbd
      rcases hq with (hq | hq) | hq
      · exact hm q hq
      · exact hq ▸ h1
      · exact h2 q hq

theorem closFrom_spec {listed : Array Bool} (hdc : ∀ i, listed.getD i false = true → Edges ops listed i) : ∀ (rest : List Oper) (pre : List Oper) (acc : List Nat), pre ++ rest = ops.toList → acc.length = pre.length →
    (∀ q, Edges ops listed q → ∀ p, (acc.getD q 0).testBit p = true → listed.getD p false = true) →
    ∀ q, Edges ops listed q → ∀ p, ((closFrom rest acc).getD q 0).testBit p = true → listed.getD p false = true := by
  intro rest
  induction rest with
  | nil => intro pre acc _ _ h; exact h
  | cons o rest ih =>
    intro pre acc hpre hlen h
    refine ih (pre ++ [o]) _ (by simpa using hpre) (by simp [hlen]) fun q hq p hp => ?_
    have ho : ops[pre.length]? = some o := by
      rw [← Array.getElem?_toList, ← hpre]; simp
    rw [List.getD_eq_getElem?_getD, List.getElem?_append] at hp
    split at hp
    · rename_i hlt
      exact h q hq p (by rw [List.getD_eq_getElem?_getD]; exact hp)
    · rename_i hge
      by_cases he : q = acc.length
      · subst he
        simp only [Nat.sub_self, List.getElem?_cons_zero, Option.getD_some] at hp
        refine clos_fold (P := fun p => listed.getD p false = true) acc _ _ (by simp) (fun e hm hbd => ?_) p hp
        have h1 := hq o (by rw [hlen]; exact ho) e (by simpa using hm) hbd
        exact ⟨h1, h e.on (hdc e.on h1)⟩
      · have : q - acc.length = (q - acc.length - 1) + 1 := by omega
        rw [this] at hp
        simp at hp

theorem clos_spec {listed : Array Bool} (hdc : ∀ i, listed.getD i false = true → Edges ops listed i) {q p : Nat} (hq : Edges ops listed q) (hp : ((clos ops.toList).getD q 0).testBit p = true) : listed.getD p false = true :=
  closFrom_spec hdc ops.toList [] [] rfl rfl (by simp) q hq p hp

theorem pairsOk_iff {os : List Oper} {cl : List Nat} : ∀ {L : List Item}, pairsOk os cl L = true ↔ L.Pairwise fun p q => pairOk os cl p q = true
  | [] => by simp [pairsOk]
  | p :: r => by simp [pairsOk, pairsOk_iff (L := r)]

theorem wpAny_items (hrb : cx.rb = false) {m : Nat} {k : List AVal → Heap → Option R} (hJ : JOps J ops.toList) (hX : ExtOk cx.P cx.A) (hK : SoundK cx.P cx.A cx.K) (hedges : ∀ i o, ops[i]? = some o → ∀ e ∈ o.after, Region.binds .any e = true → e.on < i) :
    ∀ (n : Nat) (L : List Item) (seen ρ : List AVal) (h : Heap) (G : Gh) (w : World) (a : Act) (listed : Array Bool), L.length = n →
    pairsOk ops.toList (clos ops.toList) L = true → (∀ it ∈ L, ops[it.i]? = some it.o ∧ (isEff it.o = false → it.locks = []) ∧ (it.rsv ≠ none ∨ it.hid = true → isEff it.o = true)) → seen.length = ops.size → listed.size = ops.size →
    (∀ j, listed.getD j true = false ↔ ∃ it ∈ L, it.i = j) → (∀ i, listed.getD i false = true → Edges ops listed i) →
    evalItems cx ops.toList m L seen ρ h k kp = some r → Inv G h w → GlobOk cx.A G h w → Slots J G h ρ a →
    (∀ ρ' h' G' w' a', k ρ' h' = some r → Ext G h w G' h' w' → Inv G' h' w' → Slots J G' h' ρ' a' → Q .normal a' w') →
    (∀ v h' G' w' V a', kp v h' = some r → Ext G h w G' h' w' → Inv G' h' w' → RelV G' h' v V → J a' → Q (.panic [{ v := V, recovered := false }]) a' w') →
    wpAny cx.P .any ops Q n listed a w := by
  intro n
  induction n with
  | zero =>
    intro L seen ρ h G w a listed hn _ _ _ _ hun _ hb i gl s hk _
    cases List.eq_nil_of_length_eq_zero hn
    refine ⟨?_, hk _ _ G w a hb (Ext.refl G h w) i s⟩
    cases hr : Region.ready .any ops listed with
    | nil => rfl
    | cons j js =>
      have hj : j ∈ Region.ready .any ops listed := by rw [hr]; simp
      obtain ⟨it, hit, _⟩ := (hun j).1 (mem_ready.1 hj).1
      cases hit
  | succ n ih =>
    intro L seen ρ h G w a listed hn hp hit hseen hsz hun hdc hb i gl s hk hkp
    have lt : ∀ j, listed.getD j true = false → j < listed.size := fun j hj => by
      by_cases h : j < listed.size
      · exact h
      · simp [Array.getD, h] at hj
    have conv : ∀ j, j < listed.size → listed.getD j false ≠ true → listed.getD j true = false := fun j hj hn => by
      simp only [Array.getD, hj, dite_true] at hn ⊢
      simpa using hn
    have notIn : ∀ j, listed.getD j false = true → listed.getD j true = false → False := fun j h1 h2 => by
      have := lt j h2
      simp [Array.getD, this] at h1 h2
      rw [h1] at h2; cases h2
    have some_ready : ∀ m, (∃ it ∈ L, it.i = m) → ∃ j, j ∈ Region.ready .any ops listed := by
      intro m
      induction m using Nat.strongRecOn with
      | _ m ihm =>
        rintro ⟨x, hx, rfl⟩
        by_cases hall : ∀ e ∈ x.o.after, Region.binds .any e = true → listed.getD e.on false = true
        · exact ⟨x.i, mem_ready.2 ⟨(hun x.i).2 ⟨x, hx, rfl⟩, x.o, (hit x hx).1, hall⟩⟩
        · simp only [Classical.not_forall] at hall
          obtain ⟨e, he, hbd, hnl⟩ := hall
          have hlt := hedges x.i x.o (hit x hx).1 e he hbd
          have := lt x.i ((hun x.i).2 ⟨x, hx, rfl⟩)
          exact ihm e.on hlt ((hun e.on).1 (conv e.on (by omega) hnl))
    refine ⟨fun hr => ?_, fun j hj => ?_⟩
    · obtain ⟨x, hx⟩ := List.exists_mem_of_length_pos (l := L) (by omega)
      obtain ⟨y, hy⟩ := some_ready x.i ⟨x, hx, rfl⟩
      rw [hr] at hy; cases hy
    · obtain ⟨hju, o, hjo, hje⟩ := mem_ready.1 hj
      obtain ⟨it, hitL, rfl⟩ := (hun j).1 hju
      obtain ⟨pre, post, rfl⟩ := List.append_of_mem hitL
      have hpw := pairsOk_iff.1 hp
      have hsub : (pre ++ post).Sublist (pre ++ it :: post) := List.Sublist.append (List.Sublist.refl _) (List.sublist_cons_self _ _)
      have hpw2 := hpw.sublist hsub
      have hpa := List.pairwise_append.1 hpw
      have ho : o = it.o := by have := (hit it (by simp)).1; rw [hjo] at this; exact Option.some.inj this
      subst ho
      have hpre : ∀ p ∈ pre, indep ops.toList p it = true ∧ p.i ≠ it.i ∧ p.i < seen.length := by
        intro p hpm
        have h1 := hpa.2.2 p hpm it (by simp)
        simp only [pairOk, Bool.and_eq_true, Bool.or_eq_true, bne_iff_ne, Bool.not_eq_true'] at h1
        have hpu := (hun p.i).2 ⟨p, by simp [hpm], rfl⟩
        refine ⟨h1.2.resolve_left fun hbit => ?_, h1.1.1, by rw [hseen, ← hsz]; exact lt _ hpu⟩
        exact notIn p.i (clos_spec hdc (q := it.i) (fun o' ho' e he hbd => by rw [hjo] at ho'; cases ho'; exact hje e he hbd) hbit) hpu
      have hnd : (pre.map (·.i)).Nodup := by
        rw [List.nodup_iff_pairwise_ne, List.pairwise_map]
        exact hpa.1.imp fun hpq => by
          simp only [pairOk, Bool.and_eq_true, bne_iff_ne] at hpq
          exact hpq.1.1
      have hpost : ∀ q ∈ pre ++ post, q.i ≠ it.i := by
        intro q hq
        rcases List.mem_append.1 hq with hq | hq
        · exact (hpre q hq).2.1
        · have h1 := (List.pairwise_cons.1 hpa.2.1).1 q hq
          simp only [pairOk, Bool.and_eq_true, bne_iff_ne] at h1
          exact Ne.symm h1.1.1
      obtain ⟨ids, kv, e1, _, e3, e4⟩ := move hrb it post (hit it (by simp)).2.1 (hit it (by simp)).2.2 pre seen ρ h hpre hnd hb
      refine evalItemF_sound hrb hX hK hjo e1 e3 i gl s (fun v h' G' w' V f1 f2 f3 f4 f5 => ?_) (fun v h' G' w' V f1 f2 f3 f4 => hkp v h' G' w' V a f1 f2 f3 f4 s.df)
      have hlen : (pre ++ post).length = n := by simp at hn ⊢; omega
      have hlt := lt it.i hju
      refine ih (pre ++ post) _ _ h' G' w' _ _ hlen (pairsOk_iff.2 hpw2) (fun x hx => hit x (hsub.subset hx)) (by simpa using hseen) (by simpa using hsz) (fun q => ?_) (fun q hq => ?_) (e4 v h' f5 f1) f3 (gl.mono f2)
        ((s.mono f2.toMono).put it.o.dst f4 (hJ.at hjo s.df))
        (fun ρ' h'' G'' w'' a' g1 g2 g3 g4 => hk ρ' h'' G'' w'' a' g1 (f2.trans g2) g3 g4)
        (fun v h'' G'' w'' V a' g1 g2 g3 g4 g5 => hkp v h'' G'' w'' V a' g1 (f2.trans g2) g3 g4 g5)
      · by_cases hq : it.i = q
        · subst hq
          constructor
          · intro h1; simp [Array.getD, hlt] at h1
          · rintro ⟨x, hx, he⟩; exact absurd he (hpost x hx)
        · rw [getD_set_ne true hq, hun q]
          constructor
          · rintro ⟨x, hx, he⟩
            refine ⟨x, ?_, he⟩
            rcases List.mem_append.1 hx with hx | hx
            · simp [hx]
            · rcases List.mem_cons.1 hx with rfl | hx
              · exact absurd he hq
              · simp [hx]
          · rintro ⟨x, hx, he⟩; exact ⟨x, hsub.subset hx, he⟩
      · have hE : Edges ops listed q := by
          by_cases hqi : it.i = q
          · subst hqi; intro o' ho' e he hbd; rw [hjo] at ho'; cases ho'; exact hje e he hbd
          · rw [getD_set_ne false hqi] at hq; exact hdc q hq
        exact fun o' ho' e he hbd => getD_set_true (hE o' ho' e he hbd)

end
end
section
open Go Go.RowKit

section
variable {J : Act → Prop} {cx : Cx} {ρ : List AVal} {h : Heap} {k : List AVal → Heap → Option R} {r : R} {ops : Array Oper} {G : Gh} {w : World} {a : Act} {Q : Exit → Act → World → Prop}

theorem placeIn_mem : ∀ {fl : List Nat} {i k : Nat}, placeIn fl i k ≠ none → i ∈ fl
  | [], _, _, h => absurd rfl h
  | a :: r, i, k, h => by
    unfold placeIn at h
    cases ha : a == i with
    | true => simp at ha; simp [ha]
    | false => rw [ha] at h; exact List.mem_cons_of_mem _ (placeIn_mem h)
theorem itemsFrom_spec {os : List Oper} {cl fl : List Nat} (hfl : ∀ i ∈ fl, opIs isFloatOp os i = true) : ∀ (l before : List Nat), ∀ it ∈ itemsFrom os cl fl l before, os[it.i]? = some it.o ∧ (isEff it.o = false → it.locks = []) ∧ (it.rsv ≠ none ∨ it.hid = true → isEff it.o = true) := by
  intro l
  induction l with
  | nil => intro before it hit; cases hit
  | cons i l ih =>
    intro before it hit
    unfold itemsFrom at hit
    split at hit
    · rename_i o ho
      rcases List.mem_cons.1 hit with rfl | hit
      · refine ⟨ho, fun he => by simp at he; simp [he], fun hx => ?_⟩
        rcases hx with hx | hx
        · have h1 := hfl i (placeIn_mem hx)
          simp only [opIs, ho] at h1
          exact float_eff h1
        · simp only [Bool.and_eq_true] at hx
          exact call_eff hx.1
      · exact ih _ it hit
    · cases hit

theorem putSlot_length (ρ : List AVal) (d : Option Tmp) (v : AVal) : (putSlot ρ d v).length = ρ.length := by cases d <;> simp [putSlot]

/-- The slots keep their number. -/
theorem evalItems_len {os : List Oper} {m : Nat} {kp : AVal → Heap → Option R} (n : Nat) : ∀ (items : List Item) (seen ρ : List AVal) (h : Heap), ρ.length = n →
    evalItems cx os m items seen ρ h k kp = evalItems cx os m items seen ρ h (fun ρ' h' => if ρ'.length = n then k ρ' h' else none) kp := by
  intro items
  induction items with
  | nil => intro seen ρ h hn; simp [evalItems, hn]
  | cons it rest ih =>
    intro seen ρ h hn
    simp only [evalItems, forceL_eq]
    congr 1
    funext v h'
    exact ih _ _ _ (by rw [putSlot_length, hn])

/-- How the ends of the evaluator stand to the exits of the model. -/
def ExPost (J : Act → Prop) (n : Nat) (kn : List AVal → Heap → Option R) (ke : Ex → List AVal → Heap → Option R) (r : R) (G : Gh) (h : Heap) (w : World) (Q : Exit → Act → World → Prop) : Prop :=
  (∀ ρ' h' G' w' a', kn ρ' h' = some r → Ext G h w G' h' w' → Inv G' h' w' → Slots J G' h' ρ' a' → ρ'.length = n → Q .normal a' w') ∧
  (∀ e ρ' h' G' w' a', ke e ρ' h' = some r → Ext G h w G' h' w' → Inv G' h' w' → Slots J G' h' ρ' a' → ρ'.length = n →
    match e with
    | .exit id => Q (.exit id) a' w'
    | .ret => Q .ret a' w'
    | _ => True) ∧
  ∀ v ρ' h' G' w' a' V, ke (.pan v) ρ' h' = some r → Ext G h w G' h' w' → Inv G' h' w' → RelV G' h' v V → J a' → Q (.panic [{ v := V, recovered := false }]) a' w'

theorem Ext.undrew {G' : Gh} {h' : Heap} {w' : World} (x : Ext G h { w with drawn := w.drawn + 1 } G' h' w') : Ext G h w G' h' w' :=
  ⟨x.os, x.tape, x.output, x.size, x.frame, x.hmono, x.own, x.kinds⟩

/-- Places for blocks. -/
theorem Inv.reserve (i : Inv G h w) (n : Nat) : Inv G (reserve n h) w ∧ Ext G h w G (reserve n h) w := by
  cases n with
  | zero => exact ⟨i, Ext.refl G h w⟩
  | succ n =>
    have hfr : ∀ (n j : Nat) (bl : ABlk), (frees n)[j]? = some bl → bl = .free := by
      intro n
      induction n with
      | zero => intro j bl hb; simp [frees] at hb
      | succ n ih =>
        intro j bl hb
        cases j with
        | zero => simp [frees] at hb; exact hb.symm
        | succ j => exact ih j bl (by simpa [frees] using hb)
    refine i.push rfl rfl rfl (Nat.le_refl _) (fun _ _ => rfl) (fun _ _ => rfl) (fun _ _ => rfl) (fun _ _ _ h => h) (fun _ _ _ => rfl) (fun b k v _ hv => i.ok b k v hv) (fun j bl hb _ => ?_) (fun j bl b hb ho => ?_) (fun j j' bl bl' b hb _ ho _ => ?_)
    · rw [hfr _ j bl hb]; trivial
    · rw [hfr _ j bl hb] at ho; cases ho
    · rw [hfr _ j bl hb] at ho; cases ho

/-- What a region's run is shown by. -/
def RegP (P : Program) (ops : Array Oper) (draw : Bool) (Q : Exit → Act → World → Prop) (a : Act) (w : World) : Prop :=
  match draw with
  | false => wpOps P ops Q (List.range ops.size) a w
  | true => wpAny P .any ops Q ops.size (Array.replicate ops.size false) a { w with drawn := w.drawn + 1 }
theorem evalRegion_sound {draw : Bool} (hJ : JOps J ops.toList) (hm : cx.P.follows .mixedOrders = true) (hX : ExtOk cx.P cx.A) (hK : SoundK cx.P cx.A cx.K) {kp : AVal → Heap → Option R} (hb : evalRegion cx ops.toList draw ρ h k kp = some r) (i : Inv G h w) (gl : GlobOk cx.A G h w) (s : Slots J G h ρ a)
    (hn : ρ.length = cx.n)
    (hk : ∀ ρ' h' G' w' a', k ρ' h' = some r → Ext G h w G' h' w' → Inv G' h' w' → Slots J G' h' ρ' a' → ρ'.length = cx.n → Q .normal a' w')
    (hkp : ∀ v h' G' w' a' V, kp v h' = some r → Ext G h w G' h' w' → Inv G' h' w' → RelV G' h' v V → J a' → Q (.panic [{ v := V, recovered := false }]) a' w') : RegP cx.P ops draw Q a w := by
  cases draw with
  | false =>
    simp only [evalRegion] at hb
    rw [evalItems_len cx.n _ _ _ _ hn] at hb
    show wpOps _ _ _ _ _ _
    rw [← plainItems_spec.1]
    refine items_plain hJ hX hK _ _ _ _ G w a plainItems_spec.2 hb i gl s (fun ρ' h' G' w' a' e1 e2 e3 e4 => ?_) (fun v h' G' w' V a' e1 e2 e3 e4 e5 => ?_)
    · split at e1
      · rename_i hl; exact hk ρ' h' G' w' a' e1 e2 e3 e4 hl
      · cases e1
    · exact hkp v h' G' w' a' V e1 e2 e3 e4 e5
  | true =>
    simp only [evalRegion] at hb
    cases hd : drawnItems ops.toList with
    | none => simp only [hd] at hb; cases hb
    | some items =>
      simp only [hd] at hb
      unfold drawnItems at hd
      simp only [] at hd
      generalize hit : itemsFrom ops.toList (clos ops.toList) (floatsOf ops.toList (clos ops.toList)) (orderOf ops.toList) [] = items' at hd
      cases hc : (pairsOk ops.toList (clos ops.toList) items' && edgesOk ops.toList && (items'.length == ops.toList.length) && (List.range ops.toList.length).all (fun i => items'.any fun it => it.i == i)) with
      | false => rw [hc] at hd; cases hd
      | true =>
        rw [hc] at hd
        cases hd
        rw [evalItems_len cx.n _ _ _ _ hn] at hb
        simp only [Bool.and_eq_true, beq_iff_eq, Array.length_toList, List.all_eq_true, List.mem_range, List.any_eq_true] at hc
        obtain ⟨⟨⟨h1, h2⟩, h3⟩, h4⟩ := hc
        have hspec : ∀ it ∈ items, ops[it.i]? = some it.o ∧ (isEff it.o = false → it.locks = []) ∧ (it.rsv ≠ none ∨ it.hid = true → isEff it.o = true) := by
          intro it hm
          rw [← hit] at hm
          have := itemsFrom_spec (fun i hi => by
            have := (List.mem_filter.1 hi).2
            simp only [Bool.and_eq_true] at this
            exact this.1) _ _ it hm
          rwa [Array.getElem?_toList] at this
        show wpAny _ _ _ _ _ _ _ _
        obtain ⟨ir, xr⟩ := i.reserve (nFloats items)
        refine wpAny_items (cx := { cx with rb := false }) rfl (m := h.length) hJ hX hK (fun j o ho e he hbd => ?_) ops.size items _ ρ (reserve (nFloats items) h) G _ a _ h3 h1 hspec (by simp) (by simp) (fun j => ?_) (fun j hj => ?_) hb ir.drew (gl.mono (xr.trans (Ext.drew _ _ _))) (s.mono xr.toMono)
          (fun ρ' h' G' w' a' e1 e2 e3 e4 => by
            split at e1
            · rename_i hl; exact hk ρ' h' G' w' a' e1 (xr.trans e2.undrew) e3 e4 hl
            · cases e1) (fun v h' G' w' V a' e1 e2 e3 e4 e5 => hkp v h' G' w' a' V e1 (xr.trans e2.undrew) e3 e4 e5)
        · simp only [edgesOk, List.all_eq_true] at h2
          have := h2 (o, j) (List.mem_zipIdx_iff_getElem?.2 (by simpa using ho)) e (by simpa using he)
          simpa [hbd] using this
        · constructor
          · intro hj
            have hlt : j < ops.size := by
              by_cases hlt : j < ops.size
              · exact hlt
              · simp [Array.getD, hlt] at hj
            obtain ⟨x, hx, he⟩ := h4 j hlt
            exact ⟨x, hx, by simpa using he⟩
          · rintro ⟨x, hx, rfl⟩
            have := (Array.getElem?_eq_some_iff.1 (hspec x hx).1).1
            simp [Array.getD, this]
        · exfalso
          simp [Array.getD] at hj

end
end
section
open Go Go.RowKit

section
variable {G G' : Gh} {h h' : Heap} {w : World} {m : Nat}

/-- What the dropped blocks of cells leave behind: their cells, for good. -/
def Stays (G : Gh) (h : Heap) (w : World) (G' : Gh) (m : Nat) : Prop :=
  (∀ id cs, m ≤ id → h[id]? = some (.cells cs) → ∀ k, G'.H (G.blk id) k = w.cell? ⟨G.blk id, k, none⟩) ∧
    ∀ id tot sz cs b, m ≤ id → h[id]? = some (.vec tot sz cs) → (G.cur id).ownBlock = some b → ∀ k, G'.H b k = w.cell? ⟨b, k, none⟩

theorem san1_rel (i : Inv G h w) (l : Left G h G' h' m) (st : Stays G h w G' m) {v : AVal} {V : Value} (r : RelV G h v V) : RelV G' h' (v.san1 m h) V := by
  have junk : RelV G' h' .junk V := .p _ _ (.junk _)
  -- the cells of a block that is dropped
  have cellsOf : ∀ (id : Nat) (cs row part : List AVal) (off : Nat), m ≤ id → h[id]? = some (.cells cs) → (∀ (j : Nat) (c : AVal), part[j]? = some c → cs[off + j]? = some c) → pureRow part = some row →
      ∃ F : Nat → Value, ∀ (j : Nat) (v : AVal), row[j]? = some v → G'.H (G.blk id) (off + j) = some (F j) ∧ v.cellOk = true ∧ RelP G'.H v (F j) := by
    intro id cs row part off hid hc hpart hrow
    obtain ⟨C, e, h1, h2, h3, h4⟩ := i.blk id _ hc
    obtain ⟨p1, p2⟩ := pureRow_spec hrow
    refine ⟨fun j => C.getD (off + j) undef, fun j v hv => ?_⟩
    have hj : j < part.length := by rw [← p1]; exact (List.getElem?_eq_some_iff.1 hv).1
    obtain ⟨c', e1, e2⟩ := p2 j _ (List.getElem?_eq_getElem hj)
    rw [hv] at e1; cases e1
    have hcs := hpart j _ (List.getElem?_eq_getElem hj)
    have hlt : off + j < C.size := by rw [h2]; exact (List.getElem?_eq_some_iff.1 hcs).1
    obtain ⟨e3, e4⟩ := pure1_rel e2 (h4 _ _ hcs).2
    refine ⟨?_, e4, e3.mono l.hmono⟩
    rw [st.1 id cs hid hc, cell_of w _ _ h1]
    simp [Array.getD_eq_getD_getElem?, hlt]
  cases v with
  | slice rows t =>
    cases t with
    | own id =>
      simp only [AVal.san1]
      cases hd : decide (id < m) with
      | true =>
        simp only [cond_true]
        exact shut0_rel l (by simpa [AVal.shut0, refOf] using hd) r
      | false =>
        simp only [cond_false]
        exact .p _ _ (r.slice_inv.mono l.hmono)
    | _ => exact shut0_rel l rfl r
  | ptr id off =>
    simp only [AVal.san1]
    cases hd : decide (id < m) with
    | true =>
      simp only [cond_true]
      exact shut0_rel l (by simpa [AVal.shut0, refOf] using hd) r
    | false =>
      simp only [cond_false]
      have hid : m ≤ id := by simpa using hd
      split
      · rename_i cs hc
        split
        · rename_i row hrow
          obtain ⟨rfl, _⟩ := r.ptr_inv
          obtain ⟨F, hF⟩ := cellsOf id cs row _ off hid hc (fun j c hj => by rwa [List.getElem?_drop] at hj) hrow
          exact .p _ _ (.pptr row _ off F (fun j v hv => (hF j v hv).1) (fun j v hv => (hF j v hv).2.1) (fun j v hv => (hF j v hv).2.2))
        · exact junk
      · exact junk
  | mslice id off len sz =>
    simp only [AVal.san1]
    cases hd : decide (id < m) with
    | true =>
      simp only [cond_true]
      exact shut0_rel l (by simpa [AVal.shut0, refOf] using hd) r
    | false =>
      simp only [cond_false]
      have hid : m ≤ id := by simpa using hd
      split
      · rename_i cs hc
        split
        · rename_i row hrow
          cases hle : decide (off + len * sz ≤ cs.length) with
          | false => exact junk
          | true =>
            simp only [cond_true]
            have hle : off + len * sz ≤ cs.length := by simpa using hle
            obtain ⟨a, cap, rfl, hcap, ha⟩ := r.mslice_inv
            by_cases h0 : len = 0
            · subst h0; exact .p _ _ (.slice0 a cap)
            · obtain ⟨rfl, _⟩ := ha (by omega)
              obtain ⟨F, hF⟩ := cellsOf id cs row _ off hid hc (fun j c hj => by
                rw [List.getElem?_take] at hj
                split at hj
                · rwa [List.getElem?_drop] at hj
                · cases hj) hrow
              have hrl : row.length = len * sz := by rw [(pureRow_spec hrow).1]; simp; omega
              exact .p _ _ (relP_rows (by omega) hcap (fun j v hv _ => ⟨(hF j v hv).1, (hF j v hv).2.2, (hF j v hv).2.1⟩))
        · exact junk
      · exact junk
  | vslice id tot off len sz =>
    simp only [AVal.san1]
    cases hd : decide (id < m) with
    | true =>
      simp only [cond_true]
      exact shut0_rel l (by simpa [AVal.shut0, refOf] using hd) r
    | false =>
      simp only [cond_false]
      have hid : m ≤ id := by simpa using hd
      split
      · rename_i tot' sz' cs hc
        split
        · rename_i row hrow
          cases hle : decide (tot = tot' ∧ off + len * sz ≤ cs.length) with
          | false => exact junk
          | true =>
            simp only [cond_true]
            obtain ⟨rfl, hle⟩ : tot = tot' ∧ off + len * sz ≤ cs.length := by simpa using hle
            obtain ⟨b, cap, rfl, hnf, htot, hlc, hv⟩ := r.vslice_inv
            obtain ⟨b', cap', C, e0, g1, g2, g3, g4, g5, g6, g7, g8, g9⟩ := i.blk id _ hc
            obtain ⟨l0, cap0, k1, _⟩ := hv (by rw [g1]; rfl)
            have hcur := g1
            rw [g1] at k1
            simp only [Value.slice.injEq, Option.some.injEq, Addr.mk.injEq] at k1
            obtain ⟨⟨rfl, _⟩, _, rfl⟩ := k1
            obtain ⟨p1, p2⟩ := pureRow_spec hrow
            have hdl : ((cs.drop off).take (len * sz)).length = len * sz := by rw [List.length_take, List.length_drop]; omega
            rw [hdl] at p1
            refine .p _ _ (relP_rows (F := fun j => C.getD (off + j) undef) (by omega) hlc fun j v hvv _ => ?_)
            have hj : j < len * sz := by rw [← p1]; exact (List.getElem?_eq_some_iff.1 hvv).1
            obtain ⟨c', e1, e2⟩ := p2 j _ (List.getElem?_eq_getElem (by omega))
            rw [hvv] at e1; cases e1
            have hcs : cs[off + j]? = some (((cs.drop off).take (len * sz))[j]'(by omega)) := by
              have := List.getElem?_eq_getElem (l := (cs.drop off).take (len * sz)) (i := j) (by omega)
              rw [List.getElem?_take, if_pos hj, List.getElem?_drop] at this
              exact this
            obtain ⟨_, hrel⟩ := g9 _ _ hcs
            obtain ⟨z1, z2⟩ := pure1_rel e2 hrel
            have hlt : off + j < C.size := by
              have := (List.getElem?_eq_some_iff.1 hcs).1
              have h2 : cs.length ≤ C.size := by rw [g7, g5]; exact Nat.mul_le_mul_right _ g3
              omega
            refine ⟨?_, z1.mono l.hmono, z2⟩
            rw [st.2 id _ _ _ b' hid hc (by rw [hcur]; rfl), cell_of w _ _ g2]
            simp [Array.getD_eq_getD_getElem?, hlt]
        · exact junk
      · exact junk
  | _ =>
    simp only [AVal.san1]
    first
      | (cases hs : AVal.shut1 m _ with
         | true => exact shut1_rel l hs r
         | false => exact junk)

theorem san_rel (i : Inv G h w) (l : Left G h G' h' m) (st : Stays G h w G' m) {v : AVal} {V : Value} (r : RelV G h v V) : RelV G' h' (v.san m h) V := by
  have one : ∀ {v : AVal} {V : Value}, RelV G h v V → RelV G' h' (v.san1 m h) V := fun r => san1_rel i l st r
  have agg : ∀ (cs : List AVal) (X : Value), RelV G h (.agg cs) X → RelV G' h' (.agg (cs.map (·.san1 m h))) X := by
    intro cs X hx
    obtain ⟨C, rfl, hl, hr⟩ := hx.agg_inv
    refine .agg _ _ (by simpa using hl) fun i u hu => ?_
    simp only [List.getElem?_map, Option.map_eq_some_iff] at hu
    obtain ⟨a, ha, rfl⟩ := hu
    exact one (hr i a ha)
  cases v with
  | agg cs => exact agg cs V r
  | tuple vs =>
    obtain ⟨C, rfl, hl, hr⟩ := r.tuple_inv
    refine .tuple _ _ (by simpa using hl) fun i u hu => ?_
    simp only [List.getElem?_map, Option.map_eq_some_iff] at hu
    obtain ⟨a, ha, rfl⟩ := hu
    have := hr i a ha
    cases a <;> first | exact agg _ _ this | exact one this
  | iface t v =>
    obtain ⟨W, rfl, hr⟩ := r.iface_inv
    cases v <;> first | exact .iface _ _ _ (agg _ _ hr) | exact .iface _ _ _ (one hr)
  | _ => exact one r

theorem sanCells_spec : ∀ {cs cs' : List AVal}, sanCells m h cs = some cs' → cs'.length = cs.length ∧ ∀ (j : Nat) (c : AVal), cs'[j]? = some c → c.cellOk = true ∧ ∃ c0, cs[j]? = some c0 ∧ c = c0.san1 m h
  | [], cs', hc => by simp only [sanCells, Option.some.injEq] at hc; subst hc; simp
  | v :: r, cs', hc => by
    simp only [sanCells] at hc
    cases hk : (v.san1 m h).cellOk with
    | false => rw [hk] at hc; cases hc
    | true =>
      rw [hk] at hc
      simp only [cond_true] at hc
      split at hc
      · rename_i r' hr
        cases hc
        obtain ⟨h1, h2⟩ := sanCells_spec hr
        refine ⟨by simp [h1], fun j c hj => ?_⟩
        cases j with
        | zero => simp at hj; subst hj; exact ⟨hk, v, rfl, rfl⟩
        | succ j => simpa using h2 j c (by simpa using hj)
      · cases hc

theorem sanBlks_spec : ∀ {bs bs' : List ABlk}, sanBlks m h bs = some bs' → bs'.length = bs.length ∧ ∀ (j : Nat) (b : ABlk), bs[j]? = some b → ∃ b', bs'[j]? = some b' ∧ sanBlk m h b = some b'
  | [], bs', hb => by simp only [sanBlks, Option.some.injEq] at hb; subst hb; simp
  | b :: r, bs', hb => by
    simp only [sanBlks] at hb
    split at hb
    · rename_i b' r' hb' hr
      cases hb
      obtain ⟨h1, h2⟩ := sanBlks_spec hr
      refine ⟨by simp [h1], fun j c hj => ?_⟩
      cases j with
      | zero => simp at hj; subst hj; exact ⟨b', rfl, hb'⟩
      | succ j => simpa using h2 j c (by simpa using hj)
    · cases hb

theorem trunc_spec (ht : trunc m h = some h') (hm : m ≤ h.length) : h'.length = m ∧ ∀ (id : Nat) (b : ABlk), id < m → h[id]? = some b → ∃ b', h'[id]? = some b' ∧ sanBlk m h b = some b' := by
  obtain ⟨h1, h2⟩ := sanBlks_spec ht
  refine ⟨by rw [h1]; simp; omega, fun id b hid hb => ?_⟩
  exact h2 id b (by rw [List.getElem?_take, if_pos hid]; exact hb)

theorem sanBlk_kind {b b' : ABlk} (hs : sanBlk m h b = some b') : (∀ G G' : Gh, G'.blk = G.blk → G'.cur = G.cur → ∀ id, Kind G G' id b b') ∧ (b ≠ .free → b' ≠ .free) ∧ (∀ n sz t, b = .front n sz t → b' = .front n sz t) ∧
    ∀ (G : Gh) (id : Nat), ownerB G id b' = ownerB G id b := by
  cases b with
  | cells cs =>
    simp only [sanBlk, Option.map_eq_some_iff] at hs
    obtain ⟨cs', h1, rfl⟩ := hs
    refine ⟨fun G G' e1 e2 id => ⟨(sanCells_spec h1).1.symm, by rw [e1], by rw [e2]⟩, by simp, by simp, by simp [ownerB]⟩
  | vec t sz cs =>
    simp only [sanBlk, Option.map_eq_some_iff] at hs
    obtain ⟨cs', h1, rfl⟩ := hs
    exact ⟨fun G G' e1 e2 id => by simp [Kind, e1, e2], by simp, by simp, by simp [ownerB]⟩
  | tcells t cs =>
    simp only [sanBlk, Option.map_eq_some_iff] at hs
    obtain ⟨cs', h1, rfl⟩ := hs
    exact ⟨fun G G' e1 e2 id => ⟨rfl, (sanCells_spec h1).1.symm, by rw [e1], by rw [e2]⟩, by simp, by simp, by simp [ownerB]⟩
  | map es =>
    simp only [sanBlk] at hs
    cases ha : es.all (fun e => e.2.shut1 m) <;> rw [ha] at hs <;> cases hs
    exact ⟨fun G G' e1 e2 id => by simp [Kind, e1, e2], by simp, by simp, by simp⟩
  | free => cases hs; exact ⟨fun G G' e1 e2 id => trivial, by simp, by simp, by simp⟩
  | gone => cases hs; exact ⟨fun G G' e1 e2 id => by simp [Kind, e1, e2], by simp, by simp, by simp⟩
  | front n sz t => cases hs; exact ⟨fun G G' e1 e2 id => by simp [Kind, e1, e2], by simp, by simp, by simp⟩

end

theorem trunc_ok {G G1 : Gh} {h h1 h2 : Heap} {w w1 : World} (x : Ext G h w G1 h1 w1) (i1 : Inv G1 h1 w1) (ht : trunc h.length h1 = some h2) :
    ∃ G2, Inv G2 h2 w1 ∧ Ext G h w G2 h2 w1 ∧ h2.length = h.length ∧ (∀ (v : AVal) (V : Value), RelV G1 h1 v V → RelV G2 h2 (v.san h.length h1) V) ∧ ∀ b k v, G1.H b k = some v → G2.H b k = some v := by
  classical
  have hm : h.length ≤ h1.length := by
    by_cases h0 : h.length = 0
    · omega
    · have hlt : h.length - 1 < h.length := by omega
      obtain ⟨bl', hb, _⟩ := x.kinds (h.length - 1) _ (List.getElem?_eq_getElem hlt)
      have := (List.getElem?_eq_some_iff.1 hb).1
      omega
  let Drop : Nat → Prop := fun b => ∃ id, h.length ≤ id ∧ owner G1 h1 id = some b ∧ ((∃ cs, h1[id]? = some (.cells cs)) ∨ ∃ tot sz cs, h1[id]? = some (.vec tot sz cs))
  let G2 : Gh := { G1 with H := fun b k => if Drop b then w1.cell? ⟨b, k, none⟩ else G1.H b k }
  have hH : ∀ b k, G2.H b k = if Drop b then w1.cell? ⟨b, k, none⟩ else G1.H b k := fun _ _ => rfl
  have dropNone : ∀ b, Drop b → ∀ k, G1.H b k = none := by
    rintro b ⟨id, _, ho, ⟨cs, hc⟩ | ⟨tot, sz, cs, hc⟩⟩ k
    · rw [owner_eq hc] at ho
      obtain ⟨C, e, _, _, h3, _⟩ := i1.blk id _ hc
      cases ho; exact h3 k
    · rw [owner_eq hc] at ho
      obtain ⟨b', cap', C, e0, g1, g2, g3, g4, g5, g6, g7, g8, g9⟩ := i1.blk id _ hc
      simp only [ownerB, g1, Value.ownBlock, Option.some.injEq] at ho
      subst ho; exact g8 k
  have hmono : ∀ b k v, G1.H b k = some v → G2.H b k = some v := by
    intro b k v hv
    rw [hH]
    split
    · rename_i hd; rw [dropNone b hd k] at hv; cases hv
    · exact hv
  obtain ⟨tl, tb⟩ := trunc_spec ht hm
  -- the blocks of the new heap
  have back : ∀ (id : Nat) (b' : ABlk), h2[id]? = some b' → id < h.length ∧ ∃ b, h1[id]? = some b ∧ sanBlk h.length h1 b = some b' := by
    intro id b' hb'
    have hid : id < h.length := by rw [← tl]; exact (List.getElem?_eq_some_iff.1 hb').1
    have hlt : id < h1.length := by omega
    obtain ⟨b'', e1, e2⟩ := tb id _ hid (List.getElem?_eq_getElem hlt)
    rw [hb'] at e1; cases e1
    exact ⟨hid, _, List.getElem?_eq_getElem hlt, e2⟩
  have l : Left G1 h1 G2 h2 h.length := by
    refine ⟨hmono, rfl, rfl, fun id hid ⟨b, hb, hf⟩ => ?_, fun id n sz t hid hf => ?_, fun id hid ⟨b, hb, hf, hn⟩ => ?_⟩
    · obtain ⟨b', e1, e2⟩ := tb id b hid hb
      exact ⟨b', e1, (sanBlk_kind e2).2.1 hf⟩
    · obtain ⟨b', e1, e2⟩ := tb id _ hid hf
      rw [e1, (sanBlk_kind e2).2.2.1 n sz _ rfl]
    · obtain ⟨b', e1, e2⟩ := tb id b hid hb
      have hk := (sanBlk_kind e2).1 G1 G1 rfl rfl id
      exact ⟨b', e1, (hk.blk hf).1, hk.nf hf hn⟩
  have st : Stays G1 h1 w1 G2 h.length := by
    refine ⟨fun id cs hid hc k => ?_, fun id tot sz cs b hid hc ho k => ?_⟩
    · rw [hH, if_pos ⟨id, hid, by rw [owner_eq hc]; rfl, .inl ⟨cs, hc⟩⟩]
    · rw [hH, if_pos ⟨id, hid, by rw [owner_eq hc]; exact ho, .inr ⟨tot, sz, cs, hc⟩⟩]
  have own : ∀ id b, owner G2 h2 id = some b → id < h.length ∧ owner G1 h1 id = some b := by
    intro id b ho
    obtain ⟨bl, hb, hob⟩ := owner_some ho
    obtain ⟨hid, b0, e1, e2⟩ := back id bl hb
    refine ⟨hid, ?_⟩
    rw [owner_eq e1, ← (sanBlk_kind e2).2.2.2]
    cases bl <;> exact hob
  have noDrop : ∀ id b, id < h.length → owner G1 h1 id = some b → ¬ Drop b := by
    rintro id b hid ho ⟨id', hid', ho', _⟩
    have := i1.inj id id' _ ho ho'
    omega
  have ext : Ext G h w G2 h2 w1 := by
    refine ⟨x.os, x.tape, x.output, x.size, fun b hb hn => ?_, fun b k v hv => hmono b k v (x.hmono b k v hv), fun id b ho hb => x.own id b (own id b ho).2 hb, fun id bl hb => ?_⟩
    · obtain ⟨e1, e2⟩ := x.frame b hb hn
      refine ⟨e1, fun k => ?_⟩
      rw [hH, if_neg, e2]
      rintro ⟨id, hid, ho, _⟩
      exact hn id (x.own id _ ho hb)
    · obtain ⟨bl', e1, e2⟩ := x.kinds id bl hb
      obtain ⟨b', e3, e4⟩ := tb id bl' (List.getElem?_eq_some_iff.1 hb).1 e1
      exact ⟨b', e3, e2.trans ((sanBlk_kind e4).1 G1 G2 rfl rfl id)⟩
  refine ⟨G2, ⟨fun b k v hv => ?_, fun id bl hb => ?_, fun a b c ha hb => i1.inj a b c (own a c ha).2 (own b c hb).2⟩, ext, tl, fun v V r => san_rel i1 l st r, hmono⟩
  · rw [hH] at hv
    split at hv
    · exact hv
    · exact i1.ok b k v hv
  · obtain ⟨hid, b0, e1, e2⟩ := back id bl hb
    have hk := i1.blk id b0 e1
    have keepH : ∀ b, owner G1 h1 id = some b → ∀ k, G2.H b k = G1.H b k := fun b ho k => by rw [hH, if_neg (noDrop id b hid ho)]
    cases b0 with
    | free => cases e2; trivial
    | gone => cases e2; trivial
    | cells cs =>
      simp only [sanBlk, Option.map_eq_some_iff] at e2
      obtain ⟨cs', e3, rfl⟩ := e2
      obtain ⟨C, e, g1, g2, g3, g4⟩ := hk
      obtain ⟨s1, s2⟩ := sanCells_spec e3
      refine ⟨C, e, g1, by rw [s1]; exact g2, fun k => by rw [show G2.blk id = G1.blk id from rfl, keepH _ (by rw [owner_eq e1]; rfl)]; exact g3 k, fun j v hv => ?_⟩
      obtain ⟨k1, c0, k2, rfl⟩ := s2 j v hv
      exact ⟨k1, san1_rel i1 l st (g4 j c0 k2).2⟩
    | vec tot sz cs =>
      simp only [sanBlk, Option.map_eq_some_iff] at e2
      obtain ⟨cs', e3, rfl⟩ := e2
      obtain ⟨b', cap', C, e0, g1, g2, g3, g4, g5, g6, g7, g8, g9⟩ := hk
      obtain ⟨s1, s2⟩ := sanCells_spec e3
      refine ⟨b', cap', C, e0, g1, g2, g3, g4, g5, g6, by rw [s1]; exact g7, fun k => by rw [keepH b' (by rw [owner_eq e1]; simp [ownerB, g1, Value.ownBlock])]; exact g8 k, fun j v hv => ?_⟩
      obtain ⟨k1, c0, k2, rfl⟩ := s2 j v hv
      exact ⟨k1, san1_rel i1 l st (g9 j c0 k2).2⟩
    | tcells t cs =>
      simp only [sanBlk, Option.map_eq_some_iff] at e2
      obtain ⟨cs', e3, rfl⟩ := e2
      obtain ⟨C, g1, g2, g3, g4⟩ := hk
      obtain ⟨s1, s2⟩ := sanCells_spec e3
      refine ⟨C, g1, by rw [s1]; exact g2, fun k => by rw [show G2.blk id = G1.blk id from rfl, keepH _ (by rw [owner_eq e1]; rfl)]; exact g3 k, fun j v hv => ?_⟩
      obtain ⟨k1, c0, k2, rfl⟩ := s2 j v hv
      exact ⟨k1, san1_rel i1 l st (g4 j c0 k2).2⟩
    | map es =>
      simp only [sanBlk] at e2
      cases ha : es.all (fun e => e.2.shut1 h.length) <;> rw [ha] at e2 <;> cases e2
      simp only [List.all_eq_true] at ha
      obtain ⟨E, clock, g1, g2, g3, g4, hst⟩ := hk
      refine ⟨E, clock, g1, g2, fun k => by rw [show G2.blk id = G1.blk id from rfl, keepH _ (by rw [owner_eq e1]; rfl)]; exact g3 k, fun j kv hkv => ?_, hst⟩
      obtain ⟨mm, k1, k2, k3, k4⟩ := g4 j kv hkv
      exact ⟨mm, k1, k2, k3.mono hmono, shut1_rel l (ha kv (List.mem_of_getElem? hkv)) k4⟩
    | front n sz t =>
      cases e2
      rcases hk with ⟨k1, k2⟩ | ⟨b, cap, C, e, k1, k2, k3, k4, k5, k6, k7, k8⟩
      · exact .inl ⟨k1, k2⟩
      · exact .inr ⟨b, cap, C, e, k1, k2, k3, k4, k5, k6, fun k hk => by rw [keepH b (by rw [owner_eq e1]; simp [ownerB, k1, Value.ownBlock])]; exact k7 k hk, k8⟩
end
section
open Go Go.RowKit

/-- Every activation, in a round's frame or none. -/
def FR (rd : Option Nat) : Fence := { Fence.wide with round := rd }
theorem noDepth {rd : Option Nat} {n : Nat} : (FR rd).depth.isSome = true → 1 ≤ n := fun h => by cases h
theorem callsIn_FR {rd : Option Nat} {n : Nat} {P : Program} {f : FuncId} {args : Array Value} {w : World} {S : Ending → World → Prop} (h : Calls P f args w S) : CallsIn (FR rd) n P f args w S :=
  (callsIn_wide (n := n)).2 h
theorem rowsIn_FR {rd : Option Nat} {n : Nat} {P : Program} {row : String} {args : Array Value} {w : World} {S : Value → World → Prop} (h : Rows P row args w S) : RowsIn (FR rd) n P row args w S :=
  fun c cs _ => let ⟨v, w', r, s⟩ := h c cs; ⟨v, w', r, stepsIn_wide.2 s⟩
section
variable {rd : Option Nat} {n : Nat} {P : Program} {o : Oper} {a : Act} {w : World} {K K' : Act → World → Prop} {Q : Exit → Act → World → Prop} {ops : Array Oper}
theorem uponIn_FR {r : Result Next} (hK : ∀ a w, K a w → K' a w) (h : o.upon P a K Q r) : o.uponIn (FR rd) n P a K' Q r := by
  cases r with
  | ok x w' =>
    cases x <;> simp only [Oper.upon, Oper.uponIn] at h ⊢ <;> first
      | exact hK _ _ h
      | exact h.elim
      | exact ⟨noDepth, rowsIn_FR (h.mono fun _ _ he => hK _ _ he)⟩
      | exact ⟨noDepth, callsIn_FR (h.mono fun e _ he => by cases e <;> first | exact hK _ _ he | exact he)⟩
  | halt x w' => cases x <;> simp only [Oper.upon, Oper.uponIn] at h ⊢ <;> exact h
def noDfr (o : Oper) : Prop := ∀ c, o.op ≠ .defer c
theorem oper_FR (hd : rd = none ∨ noDfr o) (hK : ∀ a w, K a w → K' a w) (h : o.wp P a w K Q) : o.wpIn (FR rd) n P a w K' Q := by
  refine ⟨fun _ _ => trivial, ?_⟩
  have e : o.semAt (FR rd).round a.eval = execOp a.eval o := by
    rcases hd with rfl | hd
    · rfl
    · exact Oper.semAt_eq _ _ _ hd
  rw [e]
  exact uponIn_FR hK h
theorem wpOp_FR (hd : rd = none ∨ ∀ o ∈ ops.toList, noDfr o) (hno : ∀ a w, ¬ Q .outgrown a w) {i : Nat} (hK : ∀ a w, K a w → K' a w) (h : wpOp P ops Q i K a w) : wpOpIn (FR rd) n P ops Q i K' a w := by
  unfold wpOp at h
  unfold wpOpIn
  cases ho : ops[i]? with
  | none => rw [ho] at h; exact hK _ _ h
  | some o =>
    simp only [ho] at h ⊢
    split at h
    · rename_i hw
      rw [if_pos hw]
      rcases h with h | ⟨_, a', w', h⟩
      · exact oper_FR (hd.imp id fun hd => hd o (List.mem_of_getElem? (by rw [Array.getElem?_toList]; exact ho))) hK h
      · exact (hno _ _ h).elim
    · rename_i hw
      rw [if_neg hw]
      exact ⟨fun _ _ => trivial, hK _ _ h⟩
theorem wpOps_FR (hd : rd = none ∨ ∀ o ∈ ops.toList, noDfr o) (hno : ∀ a w, ¬ Q .outgrown a w) : ∀ (l : List Nat) (a : Act) (w : World), wpOps P ops Q l a w → wpOpsIn (FR rd) n P ops Q l a w
  | [], _, _, h => h
  | i :: l, a, w, h => by
    rw [wpOps_cons] at h
    rw [wpOpsIn_cons]
    exact wpOp_FR hd hno (wpOps_FR hd hno l) h
theorem wpAny_FR (hd : rd = none ∨ ∀ o ∈ ops.toList, noDfr o) (hno : ∀ a w, ¬ Q .outgrown a w) {md : Region.Mode} : ∀ (fuel : Nat) (listed : Array Bool) (a : Act) (w : World), wpAny P md ops Q fuel listed a w → wpAnyIn (FR rd) n P md ops Q fuel listed a w
  | 0, _, _, _, h => h
  | fuel + 1, listed, a, w, h => ⟨h.1, fun i hi => wpOp_FR hd hno (wpAny_FR hd hno fuel _) (h.2 i hi)⟩
theorem RegP.wpIn {id : Nat} {draw : Bool} (hm : P.follows .mixedOrders = true) (hd : rd = none ∨ ∀ o ∈ ops.toList, noDfr o) (hno : ∀ a w, ¬ Q .outgrown a w) (h : RegP P ops draw Q a w) : (Code.region id ops draw).wpIn (FR rd) n P Q a w := by
  cases draw with
  | false => exact wpIn_region (wpOps_FR hd hno _ _ _ h)
  | true => exact wpIn_region_any hm (wpAny_FR hd hno _ _ _ _ h)
end
end
section
open Go Go.RowKit

/-! ### Packed slots -/

theorem unpack_pack_aux (L : Nat) (f : AVal → AVal) : ∀ (ρ pre : List AVal) (i : Nat), (unpackFrom L (pre ++ (packFrom L i ρ).map f) ρ.length i pre.length).length = ρ.length ∧
    ∀ (j : Nat) (v : AVal), (unpackFrom L (pre ++ (packFrom L i ρ).map f) ρ.length i pre.length)[j]? = some v → v = .junk ∨ ∃ u, ρ[j]? = some u ∧ v = f u
  | [], pre, i => by simp [unpackFrom]
  | u :: r, pre, i => by
    cases hb : L.testBit i with
    | true =>
      obtain ⟨h1, h2⟩ := unpack_pack_aux L f r (pre ++ [f u]) (i + 1)
      have e1 : pre ++ (packFrom L i (u :: r)).map f = (pre ++ [f u]) ++ (packFrom L (i + 1) r).map f := by simp [packFrom, hb]
      have e2 : (pre ++ [f u]).length = pre.length + 1 := by simp
      rw [e2] at h1 h2
      have e3 : ((pre ++ [f u]) ++ (packFrom L (i + 1) r).map f).getD pre.length .junk = f u := by simp [List.getD_eq_getElem?_getD]
      rw [e1]
      simp only [List.length_cons, unpackFrom, hb, cond_true, e3]
      refine ⟨by rw [h1], fun j v hv => ?_⟩
      cases j with
      | zero => simp at hv; exact .inr ⟨u, rfl, hv.symm⟩
      | succ j => simpa using h2 j v (by simpa using hv)
    | false =>
      obtain ⟨h1, h2⟩ := unpack_pack_aux L f r pre (i + 1)
      simp only [packFrom, List.length_cons, unpackFrom, hb, cond_false, List.length_cons]
      refine ⟨by rw [h1], fun j v hv => ?_⟩
      cases j with
      | zero => simp at hv; exact .inl hv.symm
      | succ j => simpa using h2 j v (by simpa using hv)

theorem unpackFrom_length (L : Nat) (x : List AVal) : ∀ (n i j : Nat), (unpackFrom L x n i j).length = n
  | 0, _, _ => rfl
  | n + 1, i, j => by unfold unpackFrom; cases L.testBit i <;> simp [unpackFrom_length L x n]
theorem unpack_length (n L : Nat) (x : List AVal) : (unpack n L x).length = n := unpackFrom_length L x n 0 0

theorem unpack_map {n L : Nat} {ρ : List AVal} (f : AVal → AVal) (hn : ρ.length = n) (j : Nat) (v : AVal) (hv : (unpack n L ((pack L ρ).map f))[j]? = some v) : v = .junk ∨ ∃ u, ρ[j]? = some u ∧ v = f u := by
  subst hn
  have := (unpack_pack_aux L f ρ [] 0).2 j v
  simpa [unpack, pack] using this (by simpa [unpack, pack] using hv)

section
variable {J : Act → Prop} {cx : Cx} {ρ : List AVal} {h : Heap} {kn : List AVal → Heap → Option R} {ke : Ex → List AVal → Heap → Option R} {r : R} {G : Gh} {w : World} {a : Act} {Q : Exit → Act → World → Prop} {n L : Nat}

theorem Slots.repack {G' : Gh} {h' : Heap} (s : Slots J G h ρ a) (hn : ρ.length = n) (f : AVal → AVal) (hf : ∀ v V, RelV G h v V → RelV G' h' (f v) V) : Slots J G' h' (unpack n L ((pack L ρ).map f)) a := by
  refine ⟨by rw [unpack_length, ← hn, s.len], fun j v hv => ?_, s.df⟩
  rcases unpack_map f hn j v hv with rfl | ⟨u, hu, rfl⟩
  · exact .p _ _ (.junk _)
  · exact hf u _ (s.rel j u hu)
theorem Slots.pack (s : Slots J G h ρ a) (hn : ρ.length = n) : Slots J G h (unpack n L (pack L ρ)) a := by
  have := s.repack (L := L) hn id fun _ _ r => r
  simpa using this

theorem ExPost.trans {G' : Gh} {h' : Heap} {w' : World} (p : ExPost J n kn ke r G h w Q) (x : Ext G h w G' h' w') : ExPost J n kn ke r G' h' w' Q :=
  ⟨fun ρ' h'' G'' w'' a' h1 h2 h3 h4 => p.1 ρ' h'' G'' w'' a' h1 (x.trans h2) h3 h4, fun e ρ' h'' G'' w'' a' h1 h2 h3 h4 => p.2.1 e ρ' h'' G'' w'' a' h1 (x.trans h2) h3 h4,
    fun v ρ' h'' G'' w'' a' V h1 h2 h3 h4 h5 => p.2.2 v ρ' h'' G'' w'' a' V h1 (x.trans h2) h3 h4 h5⟩

/-- An end that is packed and read again. -/
theorem ExPost.pack {r0 : R} (hn : r0.1 = .normal → kn (unpack n L r0.2.1) r0.2.2 = some r) (he : ∀ e, r0.1 = e → e ≠ .normal → ke e (unpack n L r0.2.1) r0.2.2 = some r) (p : ExPost J n kn ke r G h w Q) :
    ExPost J n (packN L) (packE L) r0 G h w Q := by
  refine ⟨fun ρ' h' G' w' a' h1 h2 h3 h4 h5 => ?_, fun e ρ' h' G' w' a' h1 h2 h3 h4 h5 => ?_, fun v ρ' h' G' w' a' V h1 h2 h3 h4 h5 => ?_⟩
  · cases h1
    exact p.1 _ h' G' w' a' (hn rfl) h2 h3 (h4.pack h5) (unpack_length _ _ _)
  · cases h1
    cases e with
    | exit id => exact p.2.1 (.exit id) _ h' G' w' a' (he _ rfl (by simp)) h2 h3 (h4.pack h5) (unpack_length _ _ _)
    | ret => exact p.2.1 .ret _ h' G' w' a' (he _ rfl (by simp)) h2 h3 (h4.pack h5) (unpack_length _ _ _)
    | _ => trivial
  · cases h1
    exact p.2.2 v _ h' G' w' a' V (he _ rfl (by simp)) h2 h3 h4 h5

/-- The same, where the blocks made since then are dropped. -/
theorem ExPost.packJ {j : Bool} {r0 : R} (hn : r0.1 = .normal → kn (unpack n L r0.2.1) r0.2.2 = some r) (he : ∀ e, r0.1 = e → e ≠ .normal → ke e (unpack n L r0.2.1) r0.2.2 = some r) (p : ExPost J n kn ke r G h w Q) :
    ExPost J n (endJ j h.length L .normal) (endJ j h.length L) r0 G h w Q := by
  cases j with
  | false => exact ExPost.pack hn he p
  | true =>
    refine ⟨fun ρ' h' G' w' a' h1 h2 h3 h4 h5 => ?_, fun e ρ' h' G' w' a' h1 h2 h3 h4 h5 => ?_, fun v ρ' h' G' w' a' V h1 h2 h3 h4 h5 => ?_⟩
    all_goals
      unfold endJ endR at h1
      simp only [Option.map_eq_some_iff] at h1
      obtain ⟨h9, ht, rfl⟩ := h1
      obtain ⟨G3, i3, x3, hlen3, hrel, _⟩ := trunc_ok h2 h3 ht
    · exact p.1 _ h9 G3 w' a' (hn rfl) x3 i3 (h4.repack h5 _ hrel) (unpack_length _ _ _)
    · cases e with
      | exit id => exact p.2.1 (.exit id) _ h9 G3 w' a' (he _ rfl (by simp [Ex.san])) x3 i3 (h4.repack h5 _ hrel) (unpack_length _ _ _)
      | ret => exact p.2.1 .ret _ h9 G3 w' a' (he _ rfl (by simp [Ex.san])) x3 i3 (h4.repack h5 _ hrel) (unpack_length _ _ _)
      | _ => trivial
    · exact p.2.2 _ _ h9 G3 w' a' V (he _ rfl (by simp [Ex.san])) x3 i3 (hrel _ _ h4) h5

/-- The ends of a block's code. -/
theorem ExPost.inBlock {id : Nat} (p : ExPost J n kn ke r G h w Q) : ExPost J n kn (fun e ρ' h' => e.inBlock id (kn ρ' h') fun e => ke e ρ' h') r G h w (Exit.inBlock id Q) := by
  refine ⟨p.1, fun e ρ' h' G' w' a' h1 h2 h3 h4 h5 => ?_, fun v ρ' h' G' w' a' V h1 h2 h3 h4 h5 => p.2.2 v ρ' h' G' w' a' V h1 h2 h3 h4 h5⟩
  cases e with
  | exit j =>
    simp only [Ex.inBlock] at h1
    simp only [Exit.inBlock]
    cases hj : j == id with
    | true =>
      rw [hj] at h1
      rw [if_pos (by simpa using hj)]
      exact p.1 ρ' h' G' w' a' h1 h2 h3 h4 h5
    | false =>
      rw [hj] at h1
      rw [if_neg (by simpa using hj)]
      exact p.2.1 (.exit j) ρ' h' G' w' a' h1 h2 h3 h4 h5
  | ret => exact p.2.1 .ret ρ' h' G' w' a' h1 h2 h3 h4 h5
  | _ => trivial

/-- What the evaluator of loops owes. -/
def LpOk (lp : (List AVal × Heap → Option R) → List AVal × Heap → Option R) : Prop := ∀ F s r, lp F s = some r → ∃ n, loopN n F s = some r

theorem acond_some {v : AVal} {t e : Option R} (hb : acond v t e = some r) : ∃ b, v = .bool b ∧ (if b then t else e) = some r := by
  unfold acond at hb
  split at hb
  · rename_i b; exact ⟨b, rfl, by cases b <;> exact hb⟩
  · cases hb

def JOk (J : Act → Prop) : Code → Prop
  | .region _ ops _ => JOps J ops.toList
  | .seq a b => JOk J a ∧ JOk J b
  | .cond _ a b => JOk J a ∧ JOk J b
  | .block _ c => JOk J c
  | .loop c => JOk J c
  | .scope c => JOk J c
  | _ => True

theorem ExPost.scope (p : ExPost J n kn ke r G h w Q) : ExPost J n kn ke r G h w (Exit.noGoto Q) := by
  refine ⟨fun ρ' h' G' w' a' h1 h2 h3 h4 h5 => p.1 ρ' h' G' w' a' h1 h2 h3 h4 h5, fun e ρ' h' G' w' a' h1 h2 h3 h4 h5 => ?_, fun v ρ' h' G' w' a' V h1 h2 h3 h4 h5 => p.2.2 v ρ' h' G' w' a' V h1 h2 h3 h4 h5⟩
  have := p.2.1 e ρ' h' G' w' a' h1 h2 h3 h4 h5
  cases e <;> first | exact this | trivial

theorem noOutB {id : Nat} {Q : Exit → Act → World → Prop} (hno : ∀ a w, ¬ Q .outgrown a w) : ∀ a w, ¬ Exit.inBlock id Q .outgrown a w := hno
theorem plain_seq {rd : Option Nat} {p q : Bool} (h : rd = none ∨ (p && q) = true) : (rd = none ∨ p = true) ∧ (rd = none ∨ q = true) := by
  rcases h with h | h
  · exact ⟨.inl h, .inl h⟩
  · simp only [Bool.and_eq_true] at h; exact ⟨.inr h.1, .inr h.2⟩

theorem evalCode_soundR {rd : Option Nat} {n₀ : Nat} (hm : cx.P.follows .mixedOrders = true) (hX : ExtOk cx.P cx.A) (hK : SoundK cx.P cx.A cx.K) (hlp : LpOk cx.lp) : ∀ (c : Code) (L : Nat) (ρ : List AVal) (h : Heap) (kn : List AVal → Heap → Option R) (ke : Ex → List AVal → Heap → Option R) (r : R) (G : Gh) (w : World) (a : Act) (Q : Exit → Act → World → Prop), JOk J c →
    evalCode cx c L ρ h kn ke = some r → Inv G h w → GlobOk cx.A G h w → Slots J G h ρ a → ρ.length = cx.n → ExPost J cx.n kn ke r G h w Q → (rd = none ∨ plainRd c = true) → (∀ a w, ¬ Q .outgrown a w) → c.wpIn (FR rd) n₀ cx.P Q a w := by
  intro c
  induction c with
  | skip =>
    intro L ρ h kn ke r G w a Q hJ hb i gl s hn hk hp0 hno
    exact wpIn_skip (hk.1 ρ h G w a hb (Ext.refl G h w) i s hn)
  | region id ops draw =>
    intro L ρ h kn ke r G w a Q hJ hb i gl s hn hk hp0 hno
    refine RegP.wpIn hm (hp0.imp (fun x => x) fun hp o ho c e => by
      have := List.all_eq_true.1 hp o ho
      rw [e] at this; cases this) hno (evalRegion_sound hJ hm hX hK hb i gl s hn hk.1 fun v h' G' w' a' V e1 e2 e3 e4 e5 => ?_)
    cases hp : cx.pan with
    | true => rw [hp] at e1; exact hk.2.2 v ρ h' G' w' a' V e1 e2 e3 e4 e5
    | false => rw [hp] at e1; cases e1
  | seq x y ihx ihy =>
    intro L ρ h kn ke r G w a Q hJ hb i gl s hn hk hp0 hno
    refine wpIn_seq (ihx _ ρ h _ _ r G w a _ hJ.1 hb i gl s hn ⟨fun ρ' h' G' w' a' h1 h2 h3 h4 h5 => ?_, fun e ρ' h' G' w' a' h1 h2 h3 h4 h5 => ?_, fun v ρ' h' G' w' a' V h1 h2 h3 h4 h5 => hk.2.2 v ρ' h' G' w' a' V h1 h2 h3 h4 h5⟩ (plain_seq hp0).1 hno)
    · exact ihy L ρ' h' kn ke r G' w' a' Q hJ.2 h1 h3 (gl.mono h2) h4 h5 (hk.trans h2) (plain_seq hp0).2 hno
    · have := hk.2.1 e ρ' h' G' w' a' h1 h2 h3 h4 h5
      cases e <;> first | exact this | trivial
  | cond c x y ihx ihy =>
    intro L ρ h kn ke r G w a Q hJ hb i gl s hn hk hp0 hno
    have fin : ∀ {v : AVal} {t e : Option R} {r : R} {kn : List AVal → Heap → Option R} {ke : Ex → List AVal → Heap → Option R}, v = aval cx.A ρ c → acond v t e = some r → t = evalCode cx x L ρ h kn ke → e = evalCode cx y L ρ h kn ke → ExPost J cx.n kn ke r G h w Q → (Code.cond c x y).wpIn (FR rd) n₀ cx.P Q a w := by
      intro v t e r kn ke hv hc ht he hk
      obtain ⟨b, rfl, hb⟩ := acond_some hc
      have hcv := (hv ▸ s.eval gl.cells c).bool_inv
      subst ht; subst he
      refine wpIn_cond hcv ?_
      cases b with
      | true => exact ihx L ρ h kn ke r G w a Q hJ.1 hb i gl s hn hk (plain_seq hp0).1 hno
      | false => exact ihy L ρ h kn ke r G w a Q hJ.2 hb i gl s hn hk (plain_seq hp0).2 hno
    simp only [evalCode] at hb
    cases hf : falls x && falls y with
    | true =>
      rw [hf] at hb
      simp only [cond_true] at hb
      obtain ⟨r0, hr0, hk0⟩ := Option.bind_eq_some_iff.1 hb
      refine fin rfl hr0 rfl rfl (.packJ (fun he => ?_) (fun e he hne => ?_) hk)
      · rw [he] at hk0
        cases hl : cx.pan || (leaves [] x || leaves [] y) <;> rw [hl] at hk0 <;> exact hk0
      · rw [he] at hk0
        cases hl : cx.pan || (leaves [] x || leaves [] y) <;> rw [hl] at hk0
        · cases e <;> first | exact absurd rfl hne | cases hk0
        · cases e <;> first | exact absurd rfl hne | exact hk0
    | false =>
      rw [hf] at hb
      exact fin rfl hb rfl rfl hk
  | block id c ih =>
    intro L ρ h kn ke r G w a Q hJ hb i gl s hn hk hp0 hno
    refine wpIn_block ?_
    simp only [evalCode] at hb
    cases hf : decide (2 ≤ nSites id c + bif falls c then 1 else 0) with
    | true =>
      rw [hf] at hb
      simp only [cond_true] at hb
      obtain ⟨r0, hr0, hk0⟩ := Option.bind_eq_some_iff.1 hb
      refine ih L ρ h _ _ r0 G w a _ hJ hr0 i gl s hn (.packJ (fun he => ?_) (fun e he hne => ?_) (hk.inBlock (id := id))) hp0 (noOutB hno)
      · rw [he] at hk0; exact hk0
      · rw [he] at hk0; exact hk0
    | false =>
      rw [hf] at hb
      exact ih L ρ h _ _ r G w a _ hJ hb i gl s hn hk.inBlock hp0 (noOutB hno)
  | scope c ih =>
    intro L ρ h kn ke r G w a Q hJ hb i gl s hn hk hp0 hno
    rcases hp0 with rfl | hp0
    · exact (wpIn_wide (n := n₀)).2 (wp_scope_straight ((wpIn_wide (n := n₀)).1 (ih L ρ h kn ke r G w a _ hJ hb i gl s hn hk.scope (.inl rfl) (fun a w hq => hno a w hq))))
    · cases hp0
  | label l =>
    intro L ρ h kn ke r G w a Q hJ hb i gl s hn hk hp0 hno
    exact wpIn_label (hk.1 ρ h G w a hb (Ext.refl G h w) i s hn)
  | loop c ih =>
    intro L ρ h kn ke r G w a Q hJ hb i gl s hn hk hp0 hno
    simp only [evalCode] at hb
    obtain ⟨r0, hr0, hk0⟩ := Option.bind_eq_some_iff.1 hb
    obtain ⟨n, hloop⟩ := hlp _ _ _ hr0
    refine wpIn_loop_rounds n ?_
    have key : ∀ (n : Nat) (G' : Gh) (h' : Heap) (w' : World) (a' : Act) (x : List AVal), loopN n (fun s => evalCode cx c (L ||| ue cx.full c) (unpack cx.n (L ||| ue cx.full c) s.1) s.2 (endLp cx.lkp h.length (L ||| ue cx.full c) .normal) (endLp cx.lkp h.length (L ||| ue cx.full c))) (x, h') = some r0 → (cx.lkp = true ∨ h'.length = h.length) →
        Ext G h w G' h' w' → Inv G' h' w' → Slots J G' h' (unpack cx.n (L ||| ue cx.full c) x) a' → Code.roundsIn (FR rd) n₀ cx.P c Q n a' w' := by
      intro n
      induction n with
      | zero => intro G' h' w' a' x hl; simp [loopN] at hl
      | succ n ihn =>
        intro G' h' w' a' x hl hlen x1 i1 s1
        simp only [loopN] at hl
        obtain ⟨r1, hr1, hl⟩ := Option.bind_eq_some_iff.1 hl
        rw [roundsIn_succ]
        have round : ∀ (e : Ex) (ρ' : List AVal) (h'' : Heap) (G2 : Gh) (w2 : World) (a2 : Act), endLp cx.lkp h.length (L ||| ue cx.full c) e ρ' h'' = some r1 → Ext G' h' w' G2 h'' w2 → Inv G2 h'' w2 → Slots J G2 h'' ρ' a2 → ρ'.length = cx.n →
            ∃ G3 h3 f e3, r1 = (e3, (pack (L ||| ue cx.full c) ρ').map f, h3) ∧ Inv G3 h3 w2 ∧ Ext G' h' w' G3 h3 w2 ∧ (cx.lkp = true ∨ h3.length = h.length) ∧ (∀ v V, RelV G2 h'' v V → RelV G3 h3 (f v) V) ∧
              (e = .normal → e3 = .normal) ∧ (∀ id, e = .exit id → e3 = .exit id) ∧ (e = .ret → e3 = .ret) := by
          intro e ρ' h'' G2 w2 a2 e1 e2 e3 e4 e5
          cases hlk : cx.lkp with
          | true =>
            rw [hlk] at e1
            simp only [endLp, Option.some.injEq] at e1
            exact ⟨G2, h'', id, e, by rw [← e1]; simp, e3, e2, .inl rfl, fun _ _ h => h, fun h => h, fun _ h => h, fun h => h⟩
          | false =>
            have hlen : h'.length = h.length := by
              rcases hlen with h1 | h1
              · rw [hlk] at h1; cases h1
              · exact h1
            rw [hlk] at e1
            simp only [endLp] at e1
            unfold endRound endR at e1
            simp only [Option.map_eq_some_iff] at e1
            obtain ⟨h3, ht, rfl⟩ := e1
            rw [← hlen] at ht
            obtain ⟨G3, i3, x3, hlen3, hrel, _⟩ := trunc_ok e2 e3 ht
            rw [hlen] at hrel
            exact ⟨G3, h3, (·.san h.length h''), e.san h.length h'', rfl, i3, x3, .inr (hlen3.trans hlen), hrel, fun h => by rw [h]; rfl, fun _ h => by rw [h]; rfl, fun h => by rw [h]; rfl⟩
        refine ih _ _ h' _ _ r1 G' w' a' _ hJ hr1 i1 (gl.mono x1) s1 (unpack_length _ _ _) ⟨fun ρ' h'' G2 w2 a2 e1 e2 e3 e4 e5 => ?_, fun e ρ' h'' G2 w2 a2 e1 e2 e3 e4 e5 => ?_, fun v ρ' h'' G2 w2 a2 V e1 e2 e3 e4 e5 => ?_⟩ hp0 hno
        · obtain ⟨G3, h3, f, ee, rfl, i3, x3, hl3, hrel, q1, _, _⟩ := round _ _ _ _ _ _ e1 e2 e3 e4 e5
          obtain rfl := q1 rfl
          exact ihn G3 h3 w2 a2 _ hl hl3 (x1.trans x3) i3 (e4.repack e5 _ hrel)
        · obtain ⟨G3, h3, f, ee, rfl, i3, x3, hl3, hrel, _, q2, q3⟩ := round _ _ _ _ _ _ e1 e2 e3 e4 e5
          have s3 := e4.repack (L := L ||| ue cx.full c) e5 _ hrel
          cases e with
          | exit id =>
            obtain rfl := q2 id rfl
            simp only [Ex.thenDo, Option.some.injEq] at hl
            subst hl
            exact hk.2.1 (.exit id) _ h3 G3 w2 a2 hk0 (x1.trans x3) i3 s3 (unpack_length _ _ _)
          | ret =>
            obtain rfl := q3 rfl
            simp only [Ex.thenDo, Option.some.injEq] at hl
            subst hl
            exact hk.2.1 .ret _ h3 G3 w2 a2 hk0 (x1.trans x3) i3 s3 (unpack_length _ _ _)
          | _ => trivial
        · cases hlk : cx.lkp with
          | true =>
            rw [hlk] at e1
            simp only [endLp, Option.some.injEq] at e1
            subst e1
            simp only [Ex.thenDo, Option.some.injEq] at hl
            subst hl
            exact hk.2.2 _ _ _ G2 w2 a2 V hk0 (x1.trans e2) e3 e4 e5
          | false =>
            have hlen : h'.length = h.length := by
              rcases hlen with h1 | h1
              · rw [hlk] at h1; cases h1
              · exact h1
            rw [hlk] at e1
            simp only [endLp] at e1
            unfold endRound endR at e1
            simp only [Option.map_eq_some_iff] at e1
            obtain ⟨h3, ht, rfl⟩ := e1
            rw [← hlen] at ht
            obtain ⟨G3, i3, x3, hlen3, hrel, _⟩ := trunc_ok e2 e3 ht
            rw [hlen] at hrel
            simp only [Ex.san, Ex.thenDo, Option.some.injEq] at hl
            subst hl
            exact hk.2.2 _ _ h3 G3 w2 a2 V hk0 (x1.trans x3) i3 (hrel _ _ e4) e5
    exact key n G h w a _ hloop (.inr rfl) (Ext.refl G h w) i (s.pack hn)
  | exit id =>
    intro L ρ h kn ke r G w a Q hJ hb i gl s hn hk hp0 hno
    exact wpIn_exit (hk.2.1 (.exit id) ρ h G w a hb (Ext.refl G h w) i s hn)
  | ret =>
    intro L ρ h kn ke r G w a Q hJ hb i gl s hn hk hp0 hno
    exact wpIn_ret (hk.2.1 .ret ρ h G w a hb (Ext.refl G h w) i s hn)
  | _ => intro L ρ h kn ke r G w a Q _ hb; simp [evalCode] at hb
theorem evalCode_sound (hm : cx.P.follows .mixedOrders = true) (hX : ExtOk cx.P cx.A) (hK : SoundK cx.P cx.A cx.K) (hlp : LpOk cx.lp) (c : Code) (L : Nat) (ρ : List AVal) (h : Heap) (kn : List AVal → Heap → Option R) (ke : Ex → List AVal → Heap → Option R) (r : R) (G : Gh) (w : World) (a : Act) (Q : Exit → Act → World → Prop) (hJ : JOk J c)
    (hb : evalCode cx c L ρ h kn ke = some r) (i : Inv G h w) (gl : GlobOk cx.A G h w) (s : Slots J G h ρ a) (hn : ρ.length = cx.n) (hk : ExPost J cx.n kn ke r G h w Q) (hno : ∀ a w, ¬ Q .outgrown a w) : c.wp cx.P Q a w :=
  (wpIn_wide (n := 0)).1 (evalCode_soundR (rd := none) hm hX hK hlp c L ρ h kn ke r G w a Q hJ hb i gl s hn hk (.inl rfl) hno)

/-! ### Results -/

theorem aresult_sound {P : Program} {x : ResultVar} {v : AVal} (hb : aresult P ρ h x = some v) (i : Inv G h w) (s : Slots J G h ρ a) :
    ∃ V, (match x with | .tmp t => (pure (a.tmps.getD t undef) : Sem Value) | .cell b t => do loadVar t (← asAddr (a.tmps.getD b undef))).run P w = .ok V w ∧ RelV G h v V := by
  cases x with
  | tmp t => simp only [aresult, Option.some.injEq] at hb; subst hb; exact ⟨_, Sem.run_pure .., s.get t⟩
  | cell b t =>
    simp only [aresult] at hb
    split at hb
    · rename_i g n hg hn
      have hx := s.get b
      obtain ⟨V, h1, h2⟩ := aload_sound (P := P) hg hn i hb hx
      refine ⟨V, ?_, h2⟩
      have : ∃ A, a.tmps.getD b undef = .pointer (some A) := by
        generalize ρ.getD b .junk = x at hb hx
        generalize a.tmps.getD b undef = X at hx
        unfold aload at hb
        split at hb
        · have hp := hx.pptr_inv
          cases hp with | pptr cs b off F => exact ⟨_, rfl⟩
        · obtain ⟨rfl, _⟩ := hx.ptr_inv; exact ⟨_, rfl⟩
        · obtain ⟨_, rfl, _⟩ := hx.vptr_inv; exact ⟨_, rfl⟩
        · cases hb
      obtain ⟨A, hA⟩ := this
      rw [hA] at h1
      dsimp only
      rw [hA]
      simpa [Instr.loadAt, Instr.sureAddr, asAddr] using h1
    · cases hb

theorem results_sound {P : Program} {fn : Func} {vs : List AVal} (hb : fn.results.toList.mapM (aresult P ρ h) = some vs) (i : Inv G h w) (s : Slots J G h ρ a) :
    ∃ V, (results fn a.tmps).run P w = .ok V w ∧ RelV G h (oneOf vs) V := by
  have key : ∀ (l : List ResultVar) (vs : List AVal), l.mapM (aresult P ρ h) = some vs → ∃ Vs : List Value, (l.mapM (fun x : ResultVar => match x with | .tmp t => (pure (a.tmps.getD t undef) : Sem Value) | .cell b t => do loadVar t (← asAddr (a.tmps.getD b undef)))).run P w = .ok Vs w ∧
      vs.length = Vs.length ∧ ∀ (j : Nat) (v : AVal), vs[j]? = some v → RelV G h v (Vs.getD j undef) := by
    intro l
    induction l with
    | nil => intro vs hv; simp at hv; subst hv; exact ⟨[], by simp [Sem.run_pure], rfl, by simp⟩
    | cons x l ih =>
      intro vs hv
      simp only [List.mapM_cons, Option.bind_eq_bind, Option.bind_eq_some_iff] at hv
      obtain ⟨v, hv1, us, hus, hv⟩ := hv
      simp only [Option.pure_def, Option.some.injEq] at hv; subst hv
      obtain ⟨V, h1, h2⟩ := aresult_sound hv1 i s
      obtain ⟨Vs, h3, h4, h5⟩ := ih us hus
      refine ⟨V :: Vs, ?_, by simp [h4], fun j u hu => ?_⟩
      · simp only [List.mapM_cons, Sem.run_bind, h1, Result.andThen_ok, h3, Sem.run_pure]
      · cases j with
        | zero => simp at hu; subst hu; exact h2
        | succ j => simpa using h5 j u (by simpa using hu)
  obtain ⟨Vs, h1, h2, h3⟩ := key _ _ hb
  have h4 : (fn.results.mapM (fun x : ResultVar => match x with | .tmp t => (pure (a.tmps.getD t undef) : Sem Value) | .cell b t => do loadVar t (← asAddr (a.tmps.getD b undef)))).run P w = .ok Vs.toArray w := by
    rw [Array.mapM_eq_mapM_toList, map_eq_pure_bind]
    simp only [Sem.run_bind, h1, Result.andThen_ok, Sem.run_pure]
  refine ⟨if h : Vs.toArray.size = 1 then Vs.toArray[0] else .tuple Vs.toArray, ?_, ?_⟩
  · have e : results fn a.tmps = (fn.results.mapM (fun x : ResultVar => match x with | .tmp t => (pure (a.tmps.getD t undef) : Sem Value) | .cell b t => do loadVar t (← asAddr (a.tmps.getD b undef)))).bind fun vs => (pure (if h : vs.size = 1 then vs[0] else .tuple vs) : Sem Value) := rfl
    rw [e]
    show (Bind.bind _ _ : Sem Value).run P w = _
    rw [Sem.run_bind, h4, Result.andThen_ok, Sem.run_pure]
  · match vs, Vs, h2, h3 with
    | [v], [V], _, h3 => simpa [oneOf] using h3 0 v rfl
    | [], [], _, _ => exact RelV.undef
    | u :: v :: vs, U :: V :: Vs, h2, h3 =>
      have : oneOf (u :: v :: vs) = .tuple (u :: v :: vs) := rfl
      rw [this]
      simp only [List.size_toArray, List.length_cons, Nat.add_eq_right, Nat.add_one_ne_zero, reduceDIte]
      refine .tuple _ _ (by simpa using h2) fun j x hx => ?_
      have := h3 j x hx
      rw [List.getD_eq_getElem?_getD] at this
      rwa [Array.getD_eq_getD_getElem?, List.getElem?_toArray]
    | [], _ :: _, h2, _ => simp at h2
    | _ :: _, [], h2, _ => simp at h2
    | [_], _ :: _ :: _, h2, _ => simp at h2
    | _ :: _ :: _, [_], h2, _ => simp at h2

end
end
section
open Go Go.RowKit

section
variable {cx : Cx} {ops : Array Oper} {h : Heap} {G : Gh} {w : World} {a : Act} {r : R}

/-- What is known of a frame behind its 'defer'. -/
def JD (L : Nat) (a0 : Act) (a : Act) : Prop := a.defers = a0.defers ∧ a.tmps.size = a0.tmps.size ∧ ∀ t, L.testBit t = true → a.tmps.getD t undef = a0.tmps.getD t undef

theorem JD.put {L : Nat} {a0 : Act} {dst : Option Tmp} {V : Value} (h : JD L a0 a) (hd : ∀ d, dst = some d → L.testBit d = false) : JD L a0 (a.put dst V) := by
  cases dst with
  | none => exact h
  | some d =>
    refine ⟨h.1, by simpa [Act.put] using h.2.1, fun t ht => ?_⟩
    rw [← h.2.2 t ht]
    have hne : d ≠ t := by
      rintro rfl
      rw [hd d rfl] at ht; cases ht
    simp [Act.put, Array.getD_eq_getD_getElem?, Array.getElem?_setIfInBounds, hne]
theorem okDst_jok {L : Nat} {a0 : Act} : ∀ {b : Code}, okDst L b = true → JOk (JD L a0) b
  | .region _ ops _, hb => by
    simp only [okDst, List.all_eq_true] at hb
    intro o ho a V hj
    refine hj.put fun d hd => ?_
    have := hb o ho
    rw [hd] at this
    simpa using this
  | .seq x y, hb => by
    simp only [okDst, Bool.and_eq_true] at hb
    exact ⟨okDst_jok hb.1, okDst_jok hb.2⟩
  | .cond _ x y, hb => by
    simp only [okDst, Bool.and_eq_true] at hb
    exact ⟨okDst_jok hb.1, okDst_jok hb.2⟩
  | .block _ c, hb => okDst_jok (b := c) hb
  | .loop c, hb => okDst_jok (b := c) hb
  | .skip, _ => trivial
  | .exit _, _ => trivial
  | .ret, _ => trivial
  | .scope _, hb => by simp [okDst] at hb
  | .label _, _ => trivial
  | .goto _, _ => trivial
  | .refuse _, _ => trivial
  | .rangeFunc .., _ => trivial

theorem jok_defers {D : List Deferred} : ∀ c : Code, JOk (fun a => a.defers = D) c
  | .region _ ops _ => fun o _ a V h => by cases o.dst <;> exact h
  | .seq a b => ⟨jok_defers a, jok_defers b⟩
  | .cond _ a b => ⟨jok_defers a, jok_defers b⟩
  | .block _ c => jok_defers c
  | .loop c => jok_defers c
  | .scope c => jok_defers c
  | .skip | .exit _ | .ret => trivial
  | .label _ | .goto _ | .refuse _ | .rangeFunc .. => trivial

theorem relVs_slots {args : List AVal} {X : Array Value} {n : Nat} (hx : RelVs G h args X) (hn : args.length ≤ n) :
    Slots (fun a => a.defers = []) G h (args ++ List.replicate (n - args.length) (.tuple [])) { tmps := X ++ Array.replicate (n - X.size) undef, defers := [] } := by
  refine ⟨by simp [hx.1], fun j v hv => ?_, rfl⟩
  have hs := hx.1
  simp only [Array.getD_eq_getD_getElem?]
  by_cases hj : j < args.length
  · rw [List.getElem?_append_left hj] at hv
    rw [Array.getElem?_append_left (by omega)]
    have := hx.2 j v hv
    rwa [Array.getD_eq_getD_getElem?] at this
  · rw [List.getElem?_append_right (by omega)] at hv
    rw [Array.getElem?_append_right (by omega)]
    rw [List.getElem?_replicate] at hv
    split at hv
    · cases hv
      rename_i hlt
      rw [Array.getElem?_replicate, if_pos (by omega)]
      exact .undef
    · cases hv

/-! ### The call that was put off -/

theorem wpOpsS_of {P : Program} {Q : Exit → Act → List Frame → World → Prop} {cs : List Frame} (hno : ∀ a w, ¬ Q .outgrown a cs w) : ∀ (l : List Nat) (a : Act) (w : World),
    wpOps P ops (fun e a w => Q e a cs w) l a w → wpOpsS P ops Q l a cs w
  | [], a, w, h => h
  | i :: rest, a, w, h => by
    have ih := wpOpsS_of (P := P) (Q := Q) (cs := cs) hno rest
    simp only [wpOps, wpOpsS] at h ⊢
    cases ho : ops[i]? with
    | none => simp only [ho] at h ⊢; exact ih a w h
    | some o =>
      simp only [ho] at h ⊢
      by_cases hw : Region.wanted o (yielded ops a.tmps) = true
      · simp only [hw, if_true] at h ⊢
        rcases h with h | ⟨_, x, y, hl⟩
        · have h' : o.upon P a (fun a' w' => wpOpsS P ops Q rest a' cs w') (fun e a' w' => Q e a' cs w') ((execOp a.eval o).run P w) := Oper.wp_mono (fun a w => ih a w) h
          split
          · rename_i w' hr
            rw [hr] at h'
            exact h'.elim
          · exact h'
        · exact absurd hl (hno _ _)
      · simp only [hw, if_false, Bool.false_eq_true] at h ⊢
        exact ih _ _ h

/-- How the caller's mode is left. -/
def leftMode : Option Value → FrameMode
  | none => .returning
  | some V => .panicking [{ v := V, recovered := true }]
def enterMode : Option Value → FrameMode
  | none => .returning
  | some V => .panicking [{ v := V, recovered := false }]

/-- What a call that was put off leaves behind. -/
def RecPost (G : Gh) (h : Heap) (w : World) (h' : Heap) (PV : Option Value) (e : Ending) (u' : FrameMode) (w' : World) : Prop :=
  (∃ v, e = .returned v) ∧ u' = leftMode PV ∧ ∃ G', Ext G h w G' h' w' ∧ Inv G' h' w'

theorem evalRec_sound {g : Nat} {caps : List AVal} {pv : Option AVal} {PV : Option Value} {h' : Heap} {X : Array Value} (hm : cx.P.follows .mixedOrders = true) (hX : ExtOk cx.P cx.A) (hK : SoundK cx.P cx.A cx.K) (hlp : LpOk cx.lp)
    (hb : evalRec cx g caps pv h = some h') (i : Inv G h w) (gl : GlobOk cx.A G h w) (hx : RelVs G h caps X) (hpv : ∀ v, pv = some v → ∃ V, PV = some V ∧ RelV G h v V) (hpn : pv = none → PV = none) :
    (∀ w, (callFunc g X).run cx.P w = .ok (.enter g X) w) ∧
    CallsD cx.P g X (enterMode PV) w (RecPost G h w h' PV) := by
  unfold evalRec at hb
  cases hf : cx.P.funcs[g]? with
  | none => rw [hf] at hb; cases hb
  | some fn =>
    simp only [hf] at hb
    split at hb
    · rename_i id ops c hbody
      split at hb
      · rename_i o os hops
        cases hc : (isRecover o && decide (caps.length ≤ fn.ntmps) && fn.results.isEmpty && !(fn.name == "runtime.NumGoroutine")) with
        | false => rw [hc] at hb; cases hb
        | true =>
          rw [hc] at hb
          simp only [Bool.and_eq_true, decide_eq_true_eq, Bool.not_eq_true'] at hc
          obtain ⟨⟨⟨hrec, hcl⟩, hres⟩, hnm⟩ := hc
          have hne : ¬ fn.name = "runtime.NumGoroutine" := by simpa using hnm
          refine ⟨fun w => by simp [callFunc, Sem.run_bind, hf, hbody, hne, Sem.run_pure], ?_⟩
          simp only [cond_true] at hb
          obtain ⟨r0, hr0, hend⟩ := Option.bind_eq_some_iff.1 hb
          refine callsD_of_wpS hf hbody fun c₀ cs hu => ?_
          have h0 : ops[0]? = some o := by rw [← Array.getElem?_toList, hops]; rfl
          unfold isRecover at hrec
          simp only [Bool.and_eq_true, Option.isNone_iff_eq_none] at hrec
          obtain ⟨hgu, hrec⟩ := hrec
          obtain ⟨cl, hop, hcal⟩ : ∃ cl, o.op = .call cl ∧ cl.callee = .builtin .recover := by
            split at hrec
            · rename_i cl ho
              split at hrec
              · rename_i hcal; exact ⟨cl, ho, hcal⟩
              · cases hrec
            · cases hrec
          have hrun : ∀ (a : Act) (w : World), (execOp a.eval o).run cx.P w = .ok .recover w := by
            intro a w
            simp [execOp, hop, resolve, hcal, invoke, builtin, Sem.run_bind, Sem.run_pure]
          have hsz : List.range ops.size = 0 :: ((plainItems ops.toList).tail).map (·.i) := by
            rw [List.map_tail, plainItems_spec.1]
            have : ops.size = os.length + 1 := by rw [← Array.length_toList, hops]; rfl
            rw [this, List.range_succ_eq_map]; rfl
          let cs' : List Frame := { c₀ with mode := leftMode PV } :: cs
          have hrv : RelV G h (pv.getD .niliface) (PV.getD .nilIface) := by
            cases hp : pv with
            | none =>
              rw [hpn hp]
              exact .p _ _ .niliface
            | some v =>
              obtain ⟨V, hV, hr⟩ := hpv v hp
              rw [hV]
              exact hr
          obtain ⟨RR, hRR⟩ : ∃ RR, RR = RecPost G h w h' PV := ⟨_, rfl⟩
          rw [← hRR]
          have slots : Slots (fun a => a.defers = []) G h (putSlot (caps ++ List.replicate (fn.ntmps - caps.length) (.tuple [])) o.dst (pv.getD .niliface)) (Act.put { tmps := X ++ Array.replicate (fn.ntmps - X.size) undef, defers := [] } o.dst (PV.getD .nilIface)) :=
            (relVs_slots hx hcl).put o.dst hrv (by cases o.dst <;> rfl)
          have fin : ∀ (e : Ex) (ρ2 : List AVal) (h2 : Heap) (G2 : Gh) (w2 : World) (a2 : Act), (e = .normal ∨ e = .ret) → (e, pack 0 ρ2, h2) = r0 → Ext G h w G2 h2 w2 → Inv G2 h2 w2 → Slots (fun a => a.defers = []) G2 h2 ρ2 a2 →
              a2.defers = [] ∧ ∃ u', cs' = { c₀ with mode := u' } :: cs ∧ ∃ v, (results fn a2.tmps).run cx.P w2 = .ok v w2 ∧ RR (.returned v) u' w2 := by
            intro e ρ2 h2 G2 w2 a2 he hr x2 i2 s2
            subst hr
            have ht : trunc h.length h2 = some h' := by rcases he with rfl | rfl <;> exact hend
            obtain ⟨G3, i3, x3, _, _, _⟩ := trunc_ok x2 i2 ht
            have hrs : fn.results.toList.mapM (aresult cx.P ρ2 h2) = some [] := by
              have : fn.results = #[] := by simpa using hres
              rw [this]; rfl
            obtain ⟨V, hV, _⟩ := results_sound hrs i2 s2
            rw [hRR]
            exact ⟨s2.df, _, rfl, V, hV, ⟨V, rfl⟩, rfl, G3, x3, i3⟩
          have hlen : (putSlot (caps ++ List.replicate (fn.ntmps - caps.length) (.tuple [])) o.dst (pv.getD .niliface)).length = fn.ntmps := by rw [putSlot_length]; simp; omega
          rw [evalItems_len fn.ntmps _ _ _ _ hlen] at hr0
          have tailP := items_plain (cx := { cx with n := fn.ntmps, full := 2 ^ fn.ntmps - 1, pan := false }) (J := fun a => a.defers = []) (Q := fun e a w => Exit.thenS (c.wpS cx.P (bodyPostS cx.P fn c₀ cs RR))
              (bodyPostS cx.P fn c₀ cs RR) e a cs' w) (ops := ops) (fun o _ a V h => by cases o.dst <;> exact h) hX hK (plainItems ops.toList).tail [] _ h G w _
            (fun it hit => plainItems_spec.2 it (List.mem_of_mem_tail hit)) hr0 i gl slots
            (fun ρ1 h1 G1 w1 a1 e1 x1 i1 s1 => by
              split at e1
              case isFalse => cases e1
              rename_i hl1
              refine wpS_of_wp (evalCode_sound (cx := { cx with n := fn.ntmps, full := 2 ^ fn.ntmps - 1, pan := false }) (J := fun a => a.defers = []) hm hX hK hlp c 0 ρ1 h1 _ _ r0 G1 w1 a1 _ (jok_defers c) e1 i1 (gl.mono x1) s1 hl1 ?_ (fun a w hq => by obtain ⟨_, hq⟩ := hq; rw [hRR] at hq; obtain ⟨⟨_, h1⟩, _⟩ := hq; cases h1))
              · refine ⟨fun ρ2 h2 G2 w2 a2 e2 x2 i2 s2 _ => ?_, fun e ρ2 h2 G2 w2 a2 e2 x2 i2 s2 _ => ?_, fun v ρ2 h2 G2 w2 a2 V e2 x2 i2 _ _ => ?_⟩
                · exact fin _ ρ2 h2 G2 w2 a2 (.inl rfl) (Option.some.inj e2) (x1.trans x2) i2 s2
                · cases e with
                  | ret => exact fin _ ρ2 h2 G2 w2 a2 (.inr rfl) (Option.some.inj e2) (x1.trans x2) i2 s2
                  | exit id => cases e2; cases hend
                  | _ => trivial
                · cases e2; cases hend)
            (fun v h1 G1 w1 V a1 e1 => by cases e1)
          -- the region behind 'recover'
          have tail : wpOps cx.P ops (fun e a w => Exit.thenS (c.wpS cx.P (bodyPostS cx.P fn c₀ cs RR))
              (bodyPostS cx.P fn c₀ cs RR) e a cs' w) (((plainItems ops.toList).tail).map (·.i))
              (Act.put { tmps := X ++ Array.replicate (fn.ntmps - X.size) undef, defers := [] } o.dst (PV.getD .nilIface)) w := by
            exact tailP
          refine wpS_seq (wpS_region ?_)
          rw [hsz]
          simp only [wpOpsS, h0]
          rw [if_pos (by simp [Region.wanted, hgu])]
          simp only [hrun]
          cases PV with
          | none =>
            have hu' : c₀.mode = .returning := hu
            have hrd : recoverD (c₀ :: cs) = none := by simp [recoverD, hu']
            have hcs : (c₀ :: cs : List Frame) = cs' := by
              have : ({ c₀ with mode := .returning } : Frame) = c₀ := by rw [← hu']
              simp only [cs', leftMode, this]
            rw [hrd]
            simp only []
            rw [hcs]
            exact wpOpsS_of (fun a w hq => by obtain ⟨_, hq⟩ := hq; rw [hRR] at hq; obtain ⟨⟨_, h1⟩, _⟩ := hq; cases h1) _ _ _ tail
          | some V =>
            have hu' : c₀.mode = .panicking [{ v := V, recovered := false }] := hu
            have hrd : recoverD (c₀ :: cs) = some (V, cs') := by simp [recoverD, hu', cs', leftMode]
            rw [hrd]
            exact wpOpsS_of (fun a w hq => by obtain ⟨_, hq⟩ := hq; rw [hRR] at hq; obtain ⟨⟨_, h1⟩, _⟩ := hq; cases h1) _ _ _ tail
      · cases hb
    · cases hb

/-! ### What is put off, and what stands behind it -/

theorem unpackFrom_bit {L : Nat} {x : List AVal} : ∀ (n i j k : Nat) (v : AVal), (unpackFrom L x n i j)[k]? = some v → v = .junk ∨ L.testBit (i + k) = true
  | 0, i, j, k, v, h => by simp [unpackFrom] at h
  | n + 1, i, j, k, v, h => by
    unfold unpackFrom at h
    cases hb : L.testBit i with
    | true =>
      rw [hb] at h
      cases k with
      | zero => exact .inr hb
      | succ k =>
        have := unpackFrom_bit n (i + 1) (j + 1) k v (by simpa using h)
        rwa [show i + (k + 1) = i + 1 + k by omega]
    | false =>
      rw [hb] at h
      cases k with
      | zero => simp at h; exact .inl h.symm
      | succ k =>
        have := unpackFrom_bit n (i + 1) j k v (by simpa using h)
        rwa [show i + (k + 1) = i + 1 + k by omega]

theorem Slots.any {J J' : Act → Prop} {ρ : List AVal} (s : Slots J G h ρ a) (hj : J' a) : Slots J' G h ρ a := ⟨s.len, s.rel, hj⟩

theorem evalRest_sound {fn : Func} {RE : Ending → World → Prop} (hno : ∀ w, ¬ RE .outgrown w) {b : Code} {L : Nat} {fv : AVal} {V : Value} {ρ : List AVal} (hm : cx.P.follows .mixedOrders = true) (hX : ExtOk cx.P cx.A) (hK : SoundK cx.P cx.A cx.K) (hlp : LpOk cx.lp)
    (hb : evalRest cx b L fv ρ h = some r) (i : Inv G h w) (gl : GlobOk cx.A G h w) (s : Slots (fun a => a.defers = []) G h ρ a) (hn : ρ.length = cx.n) (hfv : RelV G h fv V)
    (hfin : ∀ (a' : Act) G' w', r.1 = .ret → Ext G h w G' r.2.2 w' → Inv G' r.2.2 w' → Slots (fun _ => True) G' r.2.2 (unpack cx.n L r.2.1) a' → ∃ v, (results fn a'.tmps).run cx.P w' = .ok v w' ∧ RE (.returned v) w') :
    ∃ d, (∀ w, (Deferred.ofValue V #[]).run cx.P w = .ok d w) ∧ b.wp cx.P (bodyPostD cx.P fn RE) { a with defers := d :: a.defers } w := by
  unfold evalRest at hb
  cases hok : okDst L b with
  | false => rw [hok] at hb; cases hb
  | true =>
    rw [hok] at hb
    simp only [cond_true] at hb
    obtain ⟨⟨g, fi, ca⟩, hg, hb⟩ := Option.bind_eq_some_iff.1 hb
    unfold acallee at hg
    split at hg <;> simp only [Option.some.injEq, Prod.mk.injEq, reduceCtorEq] at hg
    rename_i g' fi' ca'
    obtain ⟨rfl, rfl, rfl⟩ := hg
    obtain ⟨F, C, rfl, hlf, hlc, hrf, hrc⟩ := hfv.func_inv
    refine ⟨{ target := .fn (.func g') C, args := F ++ #[] }, fun w => by simp [Deferred.ofValue, Sem.run_pure], ?_⟩
    simp only [] at hb
    obtain ⟨r0, hr0, hend⟩ := Option.bind_eq_some_iff.1 hb
    have hxs : ∀ {G' : Gh} {h' : Heap} {w' : World}, Ext G h w G' h' w' → RelVs G' h' (fi' ++ ca') (F ++ #[] ++ C) := by
      intro G' h' w' x
      refine ⟨by simp [hlf, hlc], fun j u hu => ?_⟩
      rw [Array.getD_eq_getD_getElem?]
      by_cases h1 : j < fi'.length
      · rw [List.getElem?_append_left h1] at hu
        have := (hrf j u hu).mono x.toMono
        rw [Array.getD_eq_getD_getElem?] at this
        simpa [Array.getElem?_append, ← hlf, h1] using this
      · rw [List.getElem?_append_right (by omega)] at hu
        have := (hrc _ u hu).mono x.toMono
        rw [Array.getD_eq_getD_getElem?] at this
        simpa [Array.getElem?_append, ← hlf, h1] using this
    have hdf : a.defers = [] := s.df
    -- the end, whichever way it was reached
    have leave : ∀ (pv : Option AVal) (PV : Option Value) (G2 : Gh) (h2 : Heap) (w2 : World) (a2 : Act) (h3 : Heap) (pk : List AVal), Ext G h w G2 h2 w2 → Inv G2 h2 w2 → (∀ v, pv = some v → ∃ V, PV = some V ∧ RelV G2 h2 v V) → (pv = none → PV = none) →
        JD L { a with defers := { target := .fn (.func g') C, args := F ++ #[] } :: a.defers } a2 → evalRec cx g' (fi' ++ ca') pv h2 = some h3 → r = (.ret, pk, h3) → Slots (fun _ => True) G2 h2 (unpack cx.n L pk) a2 →
        Leaves cx.P fn a2.tmps RE a2.defers (enterMode PV) w2 := by
      intro pv PV G2 h2 w2 a2 h3 pk x2 i2 hv1 hv2 hj hrec hr s2
      have hd2 : a2.defers = [{ target := .fn (.func g') C, args := F ++ #[] }] := by rw [hj.1, hdf]
      obtain ⟨hin, hcd⟩ := evalRec_sound hm hX hK hlp hrec i2 (gl.mono x2) (hxs x2) hv1 hv2
      rw [hd2]
      refine leaves_cons (by cases PV <;> simp [enterMode]) (f := g') (args := F ++ #[] ++ C) (by simpa [invoke] using hin w2) ?_
      refine hcd.mono fun e u' w' hpost => ?_
      obtain ⟨⟨v, rfl⟩, rfl, G', x3, i3⟩ := hpost
      have hset : settle (leftMode PV) = .returning := by cases PV <;> simp [settle, leftMode]
      simp only [hset]
      subst hr
      exact hfin a2 G' w' rfl (x2.trans x3) i3 (s2.mono x3.toMono)
    refine evalCode_sound (cx := { cx with pan := true }) (J := JD L { a with defers := { target := .fn (.func g') C, args := F ++ #[] } :: a.defers }) hm hX hK hlp b L ρ h _ _ r0 G w _ _ (okDst_jok hok) hr0 i gl (s.any (J' := JD L _) ⟨rfl, rfl, fun _ _ => rfl⟩ |> fun s => ⟨s.len, s.rel, ⟨rfl, rfl, fun _ _ => rfl⟩⟩) hn
      ⟨fun ρ2 h2 G2 w2 a2 e2 x2 i2 s2 hn2 => ?_, fun e ρ2 h2 G2 w2 a2 e2 x2 i2 s2 hn2 => ?_, fun v ρ2 h2 G2 w2 a2 V e2 x2 i2 rv hj => ?_⟩ (fun _ w hq => hno w hq)
    · cases e2
      obtain ⟨h3, hrec, hr⟩ := Option.map_eq_some_iff.1 hend
      exact leave none none G2 h2 w2 a2 h3 _ x2 i2 (by simp) (by simp) s2.df hrec hr.symm ((s2.pack hn2).any trivial)
    · cases e2
      cases e with
      | ret =>
        obtain ⟨h3, hrec, hr⟩ := Option.map_eq_some_iff.1 hend
        exact leave none none G2 h2 w2 a2 h3 _ x2 i2 (by simp) (by simp) s2.df hrec hr.symm ((s2.pack hn2).any trivial)
      | exit id => cases hend
      | _ => trivial
    · cases e2
      obtain ⟨h3, hrec, hr⟩ := Option.map_eq_some_iff.1 hend
      refine leave (some v) (some V) G2 h2 w2 a2 h3 _ x2 i2 (fun u hu => by cases hu; exact ⟨V, rfl, rv⟩) (by simp) hj hrec hr.symm ⟨?_, fun j u hu => ?_, trivial⟩
      · rw [unpack_length, ← hn, s.len]
        exact hj.2.1.symm
      · rcases unpackFrom_bit _ _ _ _ _ hu with rfl | hbit
        · exact .p _ _ (.junk _)
        · rcases unpack_map (f := id) hn j u (by simpa using hu) with rfl | ⟨u', hu', he⟩
          · exact .p _ _ (.junk _)
          · rw [Nat.zero_add] at hbit
            rw [hj.2.2 j hbit]
            have he : u = u' := he
            subst he
            exact (s.rel j u hu').mono x2.toMono

theorem lastDefer_spec {os : List Oper} {f : Operand} (hl : lastDefer os = some f) : ∃ o c, os.getLast? = some o ∧ o.guard = none ∧ o.op = .defer c ∧ c.callee = .value f ∧ c.args = #[] ∧ o.dst = none := by
  unfold lastDefer at hl
  obtain ⟨o, h1, h2⟩ := Option.bind_eq_some_iff.1 hl
  unfold deferOf at h2
  split at h2
  · rename_i c hg ho
    split at h2
    · rename_i f' hc
      cases he : c.args.isEmpty && o.dst.isNone with
      | false => rw [he] at h2; cases h2
      | true =>
        rw [he] at h2
        simp only [Bool.and_eq_true, Array.isEmpty_iff, Option.isNone_iff_eq_none] at he
        cases h2
        exact ⟨o, c, h1, hg, ho, hc, he.1, he.2⟩
    · cases h2
  · cases h2

theorem evalPre_sound {fn : Func} {RE : Ending → World → Prop} (hno : ∀ w, ¬ RE .outgrown w) (hm : cx.P.follows .mixedOrders = true) (hX : ExtOk cx.P cx.A) (hK : SoundK cx.P cx.A cx.K) (hlp : LpOk cx.lp) (hpan : cx.pan = false) : ∀ (c : Code) (L : Nat) (ρ : List AVal) (h : Heap) (r : R) (G : Gh) (w : World) (a : Act),
    evalPre cx c L ρ h = some r → Inv G h w → GlobOk cx.A G h w → Slots (fun a => a.defers = []) G h ρ a → ρ.length = cx.n →
    (∀ (a' : Act) G' w', r.1 = .ret → Ext G h w G' r.2.2 w' → Inv G' r.2.2 w' → Slots (fun _ => True) G' r.2.2 (unpack cx.n L r.2.1) a' → ∃ v, (results fn a'.tmps).run cx.P w' = .ok v w' ∧ RE (.returned v) w') →
    c.wp cx.P (bodyPostD cx.P fn RE) a w := by
  intro c
  induction c with
  | seq x y ihx ihy =>
    intro L ρ h r G w a hb i gl s hn hfin
    -- a piece ahead of the 'defer'
    have piece : evalCode cx x (L ||| ue cx.full y) ρ h (fun ρ' h' => evalPre cx y L ρ' h') (packD L) = some r → (Code.seq x y).wp cx.P (bodyPostD cx.P fn RE) a w := by
      intro hb
      refine wp_seq (evalCode_sound (J := fun a => a.defers = []) hm hX hK hlp x _ ρ h _ _ r G w a _ (jok_defers x) hb i gl s hn ⟨fun ρ2 h2 G2 w2 a2 e2 x2 i2 s2 hn2 => ?_, fun e ρ2 h2 G2 w2 a2 e2 x2 i2 s2 hn2 => ?_, fun v ρ2 h2 G2 w2 a2 V e2 x2 i2 rv hj => ?_⟩ (fun _ w hq => hno w hq))
      · exact ihy L ρ2 h2 r G2 w2 a2 e2 i2 (gl.mono x2) s2 hn2 fun a' G' w' hr x3 i3 s3 => hfin a' G' w' hr (x2.trans x3) i3 s3
      · cases e with
        | ret =>
          cases e2
          show Leaves cx.P fn a2.tmps RE a2.defers .returning w2
          have hd2 : a2.defers = [] := s2.df
          rw [hd2]
          exact hfin a2 G2 w2 rfl x2 i2 ((s2.pack hn2).any trivial)
        | exit id => cases e2
        | _ => trivial
      · cases e2
    cases x with
    | region id ops draw =>
      cases draw with
      | true => simp only [evalPre] at hb; exact piece hb
      | false =>
        simp only [evalPre] at hb
        cases hl : lastDefer ops.toList with
        | none => simp only [hl] at hb; exact piece hb
        | some f =>
          simp only [hl] at hb
          obtain ⟨o, cl, h1, hgu, hop, hcal, hargs, hdst⟩ := lastDefer_spec hl
          rw [evalItems_len cx.n _ _ _ _ hn] at hb
          have hsz : List.range ops.size = ((plainItems ops.toList).dropLast).map (·.i) ++ [ops.size - 1] := by
            have hne : ops.toList ≠ [] := by intro h0; rw [h0] at h1; cases h1
            have hlen : (plainItems ops.toList).length = ops.size := by simp [plainItems]
            have hm1 : ((plainItems ops.toList).dropLast).map (·.i) = (List.range ops.size).dropLast := by rw [List.map_dropLast, plainItems_spec.1]
            rw [hm1]
            have hpos : 0 < ops.size := by rw [← Array.length_toList]; exact List.length_pos_iff.2 hne
            obtain ⟨m, hmm⟩ : ∃ m, ops.size = m + 1 := ⟨ops.size - 1, by omega⟩
            rw [hmm, List.range_succ, List.dropLast_concat]
            rfl
          have hlast : ops[ops.size - 1]? = some o := by
            rw [← Array.getElem?_toList]
            rw [List.getLast?_eq_getElem?] at h1
            simpa using h1
          refine wp_seq (wp_region ?_)
          rw [hsz]
          refine items_plainL (J := fun a => a.defers = []) [ops.size - 1] (fun o _ a V h => by cases o.dst <;> exact h) hX hK _ [] ρ h G w a (fun it hit => plainItems_spec.2 it ((List.dropLast_sublist _).subset hit)) hb i gl s (fun ρ2 h2 G2 w2 a2 e2 x2 i2 s2 => ?_) (fun v h2 G2 w2 V a2 e2 => by cases e2)
          split at e2
          case isFalse => cases e2
          rename_i hn2
          obtain ⟨d, hd, hwp⟩ := evalRest_sound (fn := fn) (RE := RE) hno hm hX hK hlp e2 i2 (gl.mono x2) s2 hn2 (s2.eval (gl.mono x2).cells f) fun a' G' w' hr x3 i3 s3 => hfin a' G' w' hr (x2.trans x3) i3 s3
          have hrun : (execOp a2.eval o).run cx.P w2 = .ok (.defer d) w2 := by
            simp [execOp, hop, resolve, hcal, hargs, Sem.run_bind, Sem.run_pure, hd w2]
          simp only [wpOps, hlast]
          rw [if_pos (by simp [Region.wanted, hgu])]
          left
          unfold Oper.wp
          rw [hrun, Oper.upon_defer, hdst]
          exact hwp
    | _ => simp only [evalPre] at hb; exact piece hb
  | _ => intro L ρ h r G w a hb; simp [evalPre] at hb
end
end
section
open Go Go.RowKit

def sameShape : ABlk → ABlk → Prop
  | .free, .free => True
  | .gone, .gone => True
  | .cells _, .cells _ => True
  | .front n sz t, .front n' sz' t' => n = n' ∧ sz = sz' ∧ t = t'
  | .vec _ _ _, .vec _ _ _ => True
  | .map _, .map _ => True
  | .tcells t _, .tcells t' _ => t' = t
  | _, _ => False
theorem sameShape_ren {f : Nat → Nat} (b : ABlk) : sameShape b (b.ren f) := by cases b <;> simp [sameShape, ABlk.ren]
/-- How the blocks of two heaps answer each other. -/
structure RenOk (G : Gh) (h : Heap) (G2 : Gh) (h2 : Heap) (f : Nat → Nat) (p : Nat → Bool) : Prop where
  hmono : ∀ b k v, G.H b k = some v → G2.H b k = some v
  blk : ∀ id b, p id = true → h[id]? = some b → ∃ b2, h2[f id]? = some b2 ∧ sameShape b b2
  pl : ∀ id, p id = true → G2.blk (f id) = G.blk id
  cur : ∀ id, p id = true → G2.cur (f id) = G.cur id
section
variable {G G2 : Gh} {h h2 : Heap} {f : Nat → Nat} {p : Nat → Bool}
theorem RenOk.live (m : RenOk G h G2 h2 f p) {id : Nat} (hp : p id = true) (hl : live h id) : live h2 (f id) := by
  obtain ⟨b, h1, hn⟩ := hl
  obtain ⟨b2, h3, h4⟩ := m.blk id b hp h1
  exact ⟨b2, h3, by cases b <;> cases b2 <;> simp_all [sameShape]⟩
theorem RenOk.nf (m : RenOk G h G2 h2 f p) {id : Nat} (hp : p id = true) (hl : noFront h id) : noFront h2 (f id) := by
  obtain ⟨b, h1, hn, hf⟩ := hl
  obtain ⟨b2, h3, h4⟩ := m.blk id b hp h1
  exact ⟨b2, h3, by cases b <;> cases b2 <;> simp_all [sameShape], by cases b <;> cases b2 <;> simp_all [sameShape]⟩
theorem ren0_rel (m : RenOk G h G2 h2 f p) {v : AVal} {V : Value} (r : RelV G h v V) (hok : v.ok0 p = true) : RelV G2 h2 (v.ren0 f) V := by
  cases r with
  | p v V hp =>
    have e : v.ren0 f = v := by cases hp <;> rfl
    rw [e]; exact .p _ _ (hp.mono m.hmono)
  | agg cs C hl hh => cases hok
  | tuple cs C hl hh => cases hok
  | nil => exact .nil
  | own rows id n sz V hp hf hn hr hc =>
    have hq : p id = true := hok
    obtain ⟨b2, h3, h4⟩ := m.blk id _ hq hf
    cases b2 <;> simp only [sameShape] at h4
    obtain ⟨rfl, rfl, rfl⟩ := h4
    exact .own rows (f id) n sz V (hp.mono m.hmono) h3 hn hr fun e => by rw [m.cur id hq]; exact hc e
  | ownv id V hp hb => exact .ownv (f id) V (hp.mono m.hmono) (m.nf hok hb)
  | vslice id tot off len sz b cap hl ht hc hv =>
    have hq : p id = true := hok
    refine .vslice (f id) tot off len sz b cap (m.nf hq hl) ?_ hc ?_
    · rw [m.cur id hq]; exact ht
    · rw [m.cur id hq]; exact hv
  | vptr id tot off b hl ht hv =>
    have hq : p id = true := hok
    refine .vptr (f id) tot off b (m.nf hq hl) ?_ ?_
    · rw [m.cur id hq]; exact ht
    · rw [m.cur id hq]; exact hv
  | ptr id off hl =>
    have hq : p id = true := hok
    rw [← m.pl id hq]; exact .ptr (f id) off (m.live hq hl)
  | mslice id off len sz cap hl hc =>
    have hq : p id = true := hok
    rw [← m.pl id hq]; exact .mslice (f id) off len sz cap (m.live hq hl) hc
  | mslice0 id off sz cap a => exact .mslice0 (f id) off sz cap a
  | map id hl =>
    have hq : p id = true := hok
    rw [← m.pl id hq]; exact .map (f id) (m.live hq hl)
  | func g first cap F C hlf hlc hf hc =>
    simp only [AVal.ok0, Bool.and_eq_true, List.isEmpty_iff] at hok
    obtain ⟨rfl, rfl⟩ := hok
    exact .func g [] [] F C hlf hlc (fun i v hv => by simp at hv) (fun i v hv => by simp at hv)
  | iface t v V hh => cases hok
theorem ren_rel (m : RenOk G h G2 h2 f p) {v : AVal} {V : Value} (r : RelV G h v V) (hok : v.ok p = true) : RelV G2 h2 (v.ren f) V := by
  have agg : ∀ (cs : List AVal) (V : Value), cs.all (AVal.ok0 p) = true → RelV G h (.agg cs) V → RelV G2 h2 (.agg (cs.map (AVal.ren0 f))) V := by
    intro cs V hk hx
    obtain ⟨C, rfl, hl, hr⟩ := hx.agg_inv
    refine .agg _ _ (by simpa using hl) fun i u hu => ?_
    simp only [List.getElem?_map, Option.map_eq_some_iff] at hu
    obtain ⟨a, ha, rfl⟩ := hu
    exact ren0_rel m (hr i a ha) (List.all_eq_true.1 hk a (List.mem_of_getElem? ha))
  cases v with
  | agg cs => exact agg cs V hok r
  | tuple vs =>
    obtain ⟨C, rfl, hl, hr⟩ := r.tuple_inv
    simp only [AVal.ok, List.all_eq_true] at hok
    refine .tuple _ _ (by simpa using hl) fun i u hu => ?_
    simp only [List.getElem?_map, Option.map_eq_some_iff] at hu
    obtain ⟨a, ha, rfl⟩ := hu
    have h1 := hr i a ha
    have h2 := hok a (List.mem_of_getElem? ha)
    cases a <;> first | exact agg _ _ h2 h1 | exact ren0_rel m h1 h2
  | _ => exact ren0_rel m r hok
theorem ren0_cellOk {v : AVal} (h : v.cellOk = true) : (v.ren0 f).cellOk = true := by
  cases v <;> first | exact h | rfl | skip
  rename_i rows t
  cases t <;> rfl
theorem BlkOk.ren {w : World} {id j : Nat} {b : ABlk} (m : RenOk G h G2 h2 f p) (hH : G2.H = G.H) (hb : G2.blk j = G.blk id) (hc : G2.cur j = G.cur id) (hok : b.ok p = true)
    (hk : BlkOk G h w id b) : BlkOk G2 h2 w j (b.ren f) := by
  cases b with
  | free => trivial
  | gone => trivial
  | cells cs =>
    obtain ⟨C, e, h1, h2', h3, h4⟩ := hk
    refine ⟨C, e, by rw [hb]; exact h1, by rw [List.length_map]; exact h2', by rw [hb, hH]; exact h3, fun i v hv => ?_⟩
    rw [List.getElem?_map] at hv
    obtain ⟨u, hu, rfl⟩ := Option.map_eq_some_iff.1 hv
    exact ⟨ren0_cellOk (h4 i u hu).1, ren0_rel m (h4 i u hu).2 (List.all_eq_true.1 hok u (List.mem_of_getElem? hu))⟩
  | tcells t cs =>
    obtain ⟨C, h1, h2', h3, h4⟩ := hk
    refine ⟨C, by rw [hb]; exact h1, by rw [List.length_map]; exact h2', by rw [hb, hH]; exact h3, fun i v hv => ?_⟩
    rw [List.getElem?_map] at hv
    obtain ⟨u, hu, rfl⟩ := Option.map_eq_some_iff.1 hv
    exact ⟨ren0_cellOk (h4 i u hu).1, ren0_rel m (h4 i u hu).2 (List.all_eq_true.1 hok u (List.mem_of_getElem? hu))⟩
  | front n sz t =>
    show BlkOk G2 h2 w j (.front n sz t)
    simp only [BlkOk] at hk ⊢
    rw [hc, hH]; exact hk
  | vec tot sz cs =>
    obtain ⟨b, cap, C, e, h1, h2', h3, h4, h5, h6, h7, h8, h9⟩ := hk
    refine ⟨b, cap, C, e, by rw [hc]; exact h1, h2', h3, h4, h5, h6, by rw [List.length_map]; exact h7, by rw [hH]; exact h8, fun i v hv => ?_⟩
    rw [List.getElem?_map] at hv
    obtain ⟨u, hu, rfl⟩ := Option.map_eq_some_iff.1 hv
    exact ⟨ren0_cellOk (h9 i u hu).1, ren0_rel m (h9 i u hu).2 (List.all_eq_true.1 hok u (List.mem_of_getElem? hu))⟩
  | map es =>
    obtain ⟨E, c, h1, h2', h3, h4, h5⟩ := hk
    refine ⟨E, c, by rw [hb]; exact h1, by rw [List.length_map]; exact h2', by rw [hb, hH]; exact h3, fun i kv hv => ?_, h5⟩
    rw [List.getElem?_map] at hv
    obtain ⟨u, hu, rfl⟩ := Option.map_eq_some_iff.1 hv
    obtain ⟨mm, a1, a2, a3, a4⟩ := h4 i u hu
    have hok' : (es.all fun e => e.2.ok0 p) = true := hok
    exact ⟨mm, a1, a2, by rw [hH]; exact a3, ren0_rel m a4 (List.all_eq_true.1 hok' u (List.mem_of_getElem? hu))⟩
theorem ownerB_ren {id j : Nat} {b : ABlk} (hb : G2.blk j = G.blk id) (hc : G2.cur j = G.cur id) : ownerB G2 j (b.ren f) = ownerB G id b := by
  cases b <;> simp [ABlk.ren, ownerB, hb, hc]
end

theorem idxN_spec : ∀ {l : List Nat} {i : Nat}, i ∈ l → l[idxN l i]? = some i
  | [], i, h => by simp at h
  | a :: r, i, h => by
    unfold idxN
    cases hab : a == i with
    | true =>
      have : a = i := by simpa using hab
      subst this; rfl
    | false =>
      have hne : a ≠ i := by simpa using hab
      have hm : i ∈ r := by
        rcases List.mem_cons.1 h with h | h
        · exact absurd h.symm hne
        · exact h
      simp only [cond_false, List.getElem?_cons_succ]
      exact idxN_spec hm
theorem distinctN_inj : ∀ {l : List Nat}, distinctN l = true → ∀ {i j a : Nat}, l[i]? = some a → l[j]? = some a → i = j
  | [], _, i, j, a, h, _ => by simp at h
  | b :: r, hd, i, j, a, hi, hj => by
    simp only [distinctN, Bool.and_eq_true, Bool.not_eq_true'] at hd
    have hnb : ∀ k, r[k]? = some b → False := fun k hk => by
      have := List.mem_of_getElem? hk
      have h1 : r.contains b = true := by simpa using this
      rw [hd.1] at h1; cases h1
    cases i with
    | zero =>
      cases j with
      | zero => rfl
      | succ j => simp at hi hj; subst hi; exact (hnb j hj).elim
    | succ i =>
      cases j with
      | zero => simp at hi hj; subst hj; exact (hnb i hi).elim
      | succ j => have := distinctN_inj hd.2 (i := i) (j := j) (by simpa using hi) (by simpa using hj); omega
theorem putBack_out : ∀ {is : List Nat} {bs : Heap} {h : Heap} {id : Nat}, ¬ id ∈ is → (putBack is bs h)[id]? = h[id]?
  | [], _, _, _, _ => rfl
  | i :: is, [], _, _, _ => rfl
  | i :: is, b :: bs, h, id, hn => by
    rw [putBack, putBack_out (fun hm => hn (by simp [hm])), List.getElem?_set_ne (fun e => hn (by simp [e]))]
theorem putBack_in : ∀ {is : List Nat} {bs : Heap} {h : Heap} {j id : Nat} {b : ABlk}, distinctN is = true → is[j]? = some id → bs[j]? = some b → id < h.length → (putBack is bs h)[id]? = some b
  | [], _, _, _, _, _, _, h, _, _ => by simp at h
  | i :: is, [], _, _, _, _, _, _, h, _ => by simp at h
  | i :: is, c :: bs, h, j, id, b, hd, hi, hb, hl => by
    simp only [distinctN, Bool.and_eq_true, Bool.not_eq_true'] at hd
    rw [putBack]
    cases j with
    | zero =>
      simp at hi hb; subst hi; subst hb
      rw [putBack_out (fun hm => by
        have h1 : is.contains i = true := by simpa using hm
        rw [hd.1] at h1; cases h1)]
      simp [hl]
    | succ j => exact putBack_in hd.2 (by simpa using hi) (by simpa using hb) (by simpa using hl)

theorem addN_pre : ∀ {r acc : List Nat}, ∃ l, addN acc r = acc ++ l
  | [], acc => ⟨[], by simp [addN]⟩
  | i :: r, acc => by
    obtain ⟨l, hl⟩ := addN_pre (r := r) (acc := bif acc.contains i then acc else acc ++ [i])
    rw [addN, hl]
    cases acc.contains i with
    | true => exact ⟨l, rfl⟩
    | false => exact ⟨i :: l, by simp⟩
theorem finO_sound {G G' : Gh} {h h' h2 : Heap} {w w' : World} {v : AVal} {V : Value} {r : Res} (hb : finO h.length v h' = some (r, h2)) (x : Ext G h w G' h' w') (i : Inv G' h' w') (hv : RelV G' h' v V) :
    CallPost G h w r h2 (.returned V) w' := by
  unfold finO at hb
  obtain ⟨rest, hids⟩ := addN_pre (r := reach h' [v]) (acc := List.range h.length)
  have hids : outIds h.length v h' = List.range h.length ++ rest := hids
  generalize outIds h.length v h' = ids at *
  unfold finOi at hb
  cases ho : v.ok (fun i => ids.contains i) && selOk ids h' with
  | false => rw [ho] at hb; cases hb
  | true =>
    rw [ho] at hb
    simp only [cond_true, Option.some.injEq, Prod.mk.injEq] at hb
    obtain ⟨rfl, rfl⟩ := hb
    simp only [selOk, Bool.and_eq_true, List.all_eq_true] at ho
    obtain ⟨hvok, hdis, hiok⟩ := ho
    have hmem : ∀ {id : Nat}, ids.contains id = true ↔ id ∈ ids := by intro id; simp
    have hblk : ∀ id, id ∈ ids → ∃ b, h'[id]? = some b ∧ b.ok (fun i => ids.contains i) = true := by
      intro id hid
      have := hiok id hid
      cases hg : h'[id]? with
      | none => rw [hg] at this; cases this
      | some b => rw [hg] at this; exact ⟨b, rfl, this⟩
    let Gs : Gh := { H := G'.H, blk := fun j => G'.blk (ids.getD j 0), cur := fun j => G'.cur (ids.getD j 0) }
    have getj : ∀ {j id : Nat}, ids[j]? = some id → ids.getD j 0 = id := fun hj => by rw [List.getD_eq_getElem?_getD, hj]; rfl
    have sg : ∀ {j id : Nat} {b : ABlk}, ids[j]? = some id → h'[id]? = some b → (subH ids h')[j]? = some (b.ren (idxN ids)) := by
      intro j id b hj hbb
      unfold subH
      rw [List.getElem?_map, hj]
      simp [List.getD_eq_getElem?_getD, hbb]
    have m1 : RenOk G' h' Gs (subH ids h') (idxN ids) (fun i => ids.contains i) := ⟨fun _ _ _ h => h, fun id b hp hbb => ⟨_, sg (idxN_spec (hmem.1 hp)) hbb, sameShape_ren b⟩,
      fun id hp => by show G'.blk _ = _; rw [getj (idxN_spec (hmem.1 hp))], fun id hp => by show G'.cur _ = _; rw [getj (idxN_spec (hmem.1 hp))]⟩
    have sinv : ∀ {j : Nat} {bl : ABlk}, (subH ids h')[j]? = some bl → ∃ id b, ids[j]? = some id ∧ h'[id]? = some b ∧ b.ok (fun i => ids.contains i) = true ∧ bl = b.ren (idxN ids) := by
      intro j bl hj
      have hj2 := hj
      unfold subH at hj
      rw [List.getElem?_map] at hj
      obtain ⟨id, hid, _⟩ := Option.map_eq_some_iff.1 hj
      obtain ⟨b, hb1, hb2⟩ := hblk id (List.mem_of_getElem? hid)
      rw [sg hid hb1] at hj2
      exact ⟨id, b, hid, hb1, hb2, (Option.some.inj hj2).symm⟩
    have sown : ∀ {j id : Nat}, ids[j]? = some id → owner Gs (subH ids h') j = owner G' h' id := by
      intro j id hj
      obtain ⟨b, hb1, _⟩ := hblk id (List.mem_of_getElem? hj)
      rw [owner_eq (sg hj hb1), owner_eq hb1]
      exact ownerB_ren (by show G'.blk _ = _; rw [getj hj]) (by show G'.cur _ = _; rw [getj hj])
    have sown2 : ∀ {j b : Nat}, owner Gs (subH ids h') j = some b → ∃ id, ids[j]? = some id ∧ owner G' h' id = some b := by
      intro j b hj
      obtain ⟨bl, hbl, _⟩ := owner_some hj
      obtain ⟨id, b0, hid, _⟩ := sinv hbl
      exact ⟨id, hid, by rw [← sown hid]; exact hj⟩
    have low : ∀ {j : Nat}, j < h.length → ids[j]? = some j := fun hj => by
      rw [hids, List.getElem?_append_left (by simpa using hj), List.getElem?_range hj]
    have is : Inv Gs (subH ids h') w' := ⟨i.ok, fun j bl hj => by
        obtain ⟨id, b, hid, hb1, hb2, rfl⟩ := sinv hj
        exact (i.blk id b hb1).ren m1 rfl (by show G'.blk _ = _; rw [getj hid]) (by show G'.cur _ = _; rw [getj hid]) hb2,
      fun a c b ha hc => by
        obtain ⟨ia, h1, h2⟩ := sown2 ha
        obtain ⟨ic, h3, h4⟩ := sown2 hc
        have := i.inj ia ic b h2 h4
        subst this
        exact distinctN_inj hdis h1 h3⟩
    refine ⟨Gs, ⟨x.os, x.tape, x.output, x.size, fun b hlt hno => x.frame b hlt hno, x.hmono, fun j b hob hlt => ?_, fun id bl hbl => ?_⟩, is, V, rfl, ren_rel m1 hv hvok⟩
    · obtain ⟨id, hid, h1⟩ := sown2 hob
      have h2 := x.own id b h1 hlt
      obtain ⟨bl, hbl, _⟩ := owner_some h2
      have hlt2 := (List.getElem?_eq_some_iff.1 hbl).1
      have : j = id := distinctN_inj hdis hid (low hlt2)
      rw [this]; exact h2
    · have hlt := (List.getElem?_eq_some_iff.1 hbl).1
      obtain ⟨bl', hb1, hk1⟩ := x.kinds id bl hbl
      refine ⟨_, sg (low hlt) hb1, ?_⟩
      have e1 : Gs.blk id = G'.blk id := by show G'.blk _ = _; rw [getj (low hlt)]
      have e2 : Gs.cur id = G'.cur id := by show G'.cur _ = _; rw [getj (low hlt)]
      cases bl <;> cases bl' <;> simp only [ABlk.ren, Kind, List.length_map] at hk1 ⊢ <;> first | exact hk1.elim | (rw [e1, e2]; exact hk1) | (rw [e1]; exact hk1) | trivial

section
variable {P : Program} {A : Ann} {K : CallO}
theorem subI_sound {ids : List Nat} {f : Nat} {args : List AVal} {h : Heap} {r : Res} {h' : Heap} (hK : SoundK P A K) (hb : subI K ids f args h = some (r, h')) {G : Gh} {w : World} {X : Array Value} (i : Inv G h w) (gl : GlobOk A G h w) (hx : RelVs G h args X) :
    (∀ w, (callFunc f X).run P w = .ok (.enter f X) w) ∧ Calls P f X w (CallPost G h w r h') := by
  unfold subI at hb
  cases ho : subOk ids args h with
  | false => rw [ho] at hb; cases hb
  | true =>
    rw [ho] at hb
    simp only [cond_true] at hb
    obtain ⟨⟨r1, h1⟩, hc, hb⟩ := Option.bind_eq_some_iff.1 hb
    unfold subBack at hb
    cases hk : h1.length == ids.length && (h1.all (ABlk.ok fun j => decide (j < ids.length)) && r1.ok fun j => decide (j < ids.length)) with
    | false => simp only [hk, cond_false] at hb; cases hb
    | true =>
    simp only [hk, cond_true, Option.some.injEq, Prod.mk.injEq] at hb
    obtain ⟨rfl, rfl⟩ := hb
    simp only [Bool.and_eq_true, beq_iff_eq, List.all_eq_true] at hk
    obtain ⟨hlen, hbok, hrok⟩ := hk
    simp only [subOk, Bool.and_eq_true, List.all_eq_true] at ho
    obtain ⟨haok, hdis, hiok⟩ := ho
    have hmem : ∀ {id : Nat}, ids.contains id = true ↔ id ∈ ids := by intro id; simp
    have hblk : ∀ id, id ∈ ids → ∃ b, h[id]? = some b ∧ b.ok (fun i => ids.contains i) = true := by
      intro id hid
      have := hiok id hid
      cases hg : h[id]? with
      | none => rw [hg] at this; cases this
      | some b => rw [hg] at this; exact ⟨b, rfl, this⟩
    -- the blocks that the callee sees
    let Gs : Gh := { H := G.H, blk := fun j => G.blk (ids.getD j 0), cur := fun j => G.cur (ids.getD j 0) }
    have getj : ∀ {j id : Nat}, ids[j]? = some id → ids.getD j 0 = id := fun hj => by rw [List.getD_eq_getElem?_getD, hj]; rfl
    have sg : ∀ {j id : Nat} {b : ABlk}, ids[j]? = some id → h[id]? = some b → (subH ids h)[j]? = some (b.ren (idxN ids)) := by
      intro j id b hj hbb
      unfold subH
      rw [List.getElem?_map, hj]
      simp [List.getD_eq_getElem?_getD, hbb]
    have m1 : RenOk G h Gs (subH ids h) (idxN ids) (fun i => ids.contains i) := ⟨fun _ _ _ h => h, fun id b hp hbb => ⟨_, sg (idxN_spec (hmem.1 hp)) hbb, sameShape_ren b⟩,
      fun id hp => by show G.blk _ = _; rw [getj (idxN_spec (hmem.1 hp))], fun id hp => by show G.cur _ = _; rw [getj (idxN_spec (hmem.1 hp))]⟩
    have sinv : ∀ {j : Nat} {bl : ABlk}, (subH ids h)[j]? = some bl → ∃ id b, ids[j]? = some id ∧ h[id]? = some b ∧ b.ok (fun i => ids.contains i) = true ∧ bl = b.ren (idxN ids) := by
      intro j bl hj
      have hj2 := hj
      unfold subH at hj
      rw [List.getElem?_map] at hj
      obtain ⟨id, hid, _⟩ := Option.map_eq_some_iff.1 hj
      obtain ⟨b, hb1, hb2⟩ := hblk id (List.mem_of_getElem? hid)
      rw [sg hid hb1] at hj2
      exact ⟨id, b, hid, hb1, hb2, (Option.some.inj hj2).symm⟩
    have sown : ∀ {j id : Nat}, ids[j]? = some id → owner Gs (subH ids h) j = owner G h id := by
      intro j id hj
      obtain ⟨b, hb1, _⟩ := hblk id (List.mem_of_getElem? hj)
      rw [owner_eq (sg hj hb1), owner_eq hb1]
      exact ownerB_ren (by show G.blk _ = _; rw [getj hj]) (by show G.cur _ = _; rw [getj hj])
    have sown2 : ∀ {j b : Nat}, owner Gs (subH ids h) j = some b → ∃ id, ids[j]? = some id ∧ owner G h id = some b := by
      intro j b hj
      obtain ⟨bl, hbl, _⟩ := owner_some hj
      obtain ⟨id, b0, hid, _⟩ := sinv hbl
      exact ⟨id, hid, by rw [← sown hid]; exact hj⟩
    have is : Inv Gs (subH ids h) w := ⟨i.ok, fun j bl hj => by
        obtain ⟨id, b, hid, hb1, hb2, rfl⟩ := sinv hj
        exact (i.blk id b hb1).ren m1 rfl (by show G.blk _ = _; rw [getj hid]) (by show G.cur _ = _; rw [getj hid]) hb2,
      fun a c b ha hc => by
        obtain ⟨ia, h1, h2⟩ := sown2 ha
        obtain ⟨ic, h3, h4⟩ := sown2 hc
        have := i.inj ia ic b h2 h4
        subst this
        exact distinctN_inj hdis h1 h3⟩
    have hxs : RelVs Gs (subH ids h) (args.map (AVal.ren (idxN ids))) X := ⟨by rw [List.length_map]; exact hx.1, fun j u hu => by
      rw [List.getElem?_map] at hu
      obtain ⟨v, hv, rfl⟩ := Option.map_eq_some_iff.1 hu
      exact ren_rel m1 (hx.2 j v hv) (haok v (List.mem_of_getElem? hv))⟩
    obtain ⟨e1, e2⟩ := hK f _ _ _ _ hc Gs w X is (gl.sub rfl fun j b ho => by obtain ⟨id, _, h2⟩ := sown2 ho; exact ⟨id, h2⟩) hxs
    refine ⟨e1, Calls.mono e2 fun e w' hpost => ?_⟩
    obtain ⟨Ge, x, ie, hpost⟩ := hpost
    -- back
    let G2 : Gh := { H := Ge.H, blk := fun id => if id ∈ ids then Ge.blk (idxN ids id) else G.blk id, cur := fun id => if id ∈ ids then Ge.cur (idxN ids id) else G.cur id }
    have idj : ∀ {j id : Nat}, ids[j]? = some id → idxN ids id = j := fun hj => distinctN_inj hdis (idxN_spec (List.mem_of_getElem? hj)) hj
    have b1 : ∀ {j id : Nat}, ids[j]? = some id → G2.blk id = Ge.blk j := fun hj => by
      show (if _ then _ else _) = _
      rw [if_pos (List.mem_of_getElem? hj), idj hj]
    have c1 : ∀ {j id : Nat}, ids[j]? = some id → G2.cur id = Ge.cur j := fun hj => by
      show (if _ then _ else _) = _
      rw [if_pos (List.mem_of_getElem? hj), idj hj]
    have b2 : ∀ {id : Nat}, ¬ id ∈ ids → G2.blk id = G.blk id := fun hn => if_neg hn
    have c2 : ∀ {id : Nat}, ¬ id ∈ ids → G2.cur id = G.cur id := fun hn => if_neg hn
    let back : Nat → Nat := fun j => ids.getD j 0
    let hN : Heap := putBack ids (h1.map (ABlk.ren back)) h
    have gin : ∀ {j id : Nat} {b : ABlk}, ids[j]? = some id → h1[j]? = some b → hN[id]? = some (b.ren back) := by
      intro j id b hj hbj
      obtain ⟨b0, hb0, _⟩ := hblk id (List.mem_of_getElem? hj)
      exact putBack_in hdis hj (by rw [List.getElem?_map, hbj]; rfl) (List.getElem?_eq_some_iff.1 hb0).1
    have gout : ∀ {id : Nat}, ¬ id ∈ ids → hN[id]? = h[id]? := fun hn => putBack_out hn
    have hjl : ∀ {j id : Nat}, ids[j]? = some id → ∃ b, h1[j]? = some b := fun hj => ⟨_, List.getElem?_eq_getElem (by rw [hlen]; exact (List.getElem?_eq_some_iff.1 hj).1)⟩
    have m2 : RenOk Ge h1 G2 hN back (fun j => decide (j < ids.length)) := by
      have gt : ∀ {j : Nat}, decide (j < ids.length) = true → ids[j]? = some (back j) := fun {j} hp => by
        have hlt : j < ids.length := by simpa using hp
        show _ = some (ids.getD j 0)
        rw [List.getD_eq_getElem?_getD, List.getElem?_eq_getElem hlt]; rfl
      exact ⟨fun _ _ _ h => h, fun j b hp hbj => ⟨_, gin (gt hp) hbj, sameShape_ren b⟩, fun j hp => b1 (gt hp), fun j hp => c1 (gt hp)⟩
    have own2 : ∀ {id b : Nat}, owner G2 hN id = some b → (∃ j, ids[j]? = some id ∧ owner Ge h1 j = some b) ∨ (¬ id ∈ ids ∧ owner G h id = some b) := by
      intro id b hob
      by_cases hid : id ∈ ids
      · obtain ⟨j, hj⟩ := List.getElem?_of_mem hid
        obtain ⟨bl, hbl⟩ := hjl hj
        refine .inl ⟨j, hj, ?_⟩
        rw [owner_eq (gin hj hbl)] at hob
        rw [owner_eq hbl, ← hob]
        exact (ownerB_ren (b1 hj) (c1 hj)).symm
      · refine .inr ⟨hid, ?_⟩
        obtain ⟨bl, hbl, ho2⟩ := owner_some hob
        rw [gout hid] at hbl
        rw [owner_eq hbl, ← ho2]
        cases bl <;> simp [ownerB, b2 hid, c2 hid]
    have xo : ∀ {id : Nat} {b : Nat}, ¬ id ∈ ids → owner G h id = some b → w'.heap[b]? = w.heap[b]? ∧ ∀ k, Ge.H b k = G.H b k := by
      intro id b hn hob
      obtain ⟨bl, hbl, hob2⟩ := owner_some hob
      refine x.frame b ((i.blk id bl hbl).lt hob2) fun j hj => ?_
      obtain ⟨id2, hj2, ho3⟩ := sown2 hj
      have := i.inj id id2 b hob ho3
      subst this
      exact hn (List.mem_of_getElem? hj2)
    have ownS : ∀ {id b : Nat}, owner G2 hN id = some b → b < w.heap.size → owner G h id = some b := by
      intro id b hob hlt
      rcases own2 hob with ⟨j, hj, h2⟩ | ⟨_, h2⟩
      · obtain ⟨id2, hj2, h3⟩ := sown2 (x.own j b h2 hlt)
        rw [hj] at hj2; cases hj2; exact h3
      · exact h2
    have kinds : ∀ id bl, h[id]? = some bl → ∃ bl', hN[id]? = some bl' ∧ Kind G G2 id bl bl' := by
      intro id bl hbl
      by_cases hid : id ∈ ids
      · obtain ⟨j, hj⟩ := List.getElem?_of_mem hid
        obtain ⟨bl', hb1, hk1⟩ := x.kinds j _ (sg hj hbl)
        refine ⟨_, gin hj hb1, ?_⟩
        have e1 : Gs.blk j = G.blk id := by show G.blk _ = _; rw [getj hj]
        have e2 : Gs.cur j = G.cur id := by show G.cur _ = _; rw [getj hj]
        cases bl <;> cases bl' <;> simp only [ABlk.ren, Kind, e1, e2, List.length_map] at hk1 ⊢ <;> first | exact hk1.elim | (rw [b1 hj, c1 hj]; exact hk1) | (rw [b1 hj]; exact hk1) | trivial
      · refine ⟨bl, by rw [gout hid]; exact hbl, ?_⟩
        cases bl <;> simp [Kind, b2 hid, c2 hid]
    have ext : Ext G h w G2 hN w' := ⟨x.os, x.tape, x.output, x.size, fun b hlt hno => x.frame b hlt fun j hj => by
        obtain ⟨id, _, ho3⟩ := sown2 hj
        exact hno id ho3, x.hmono, fun id b hob hlt => ownS hob hlt, kinds⟩
    refine ⟨G2, ext, ⟨ie.ok, fun id bl hbl => ?_, fun a c b ha hc => ?_⟩, ?_⟩
    · by_cases hid : id ∈ ids
      · obtain ⟨j, hj⟩ := List.getElem?_of_mem hid
        obtain ⟨b0, hb0⟩ := hjl hj
        have := gin hj hb0
        have hbl' : hN[id]? = some bl := hbl
        rw [this] at hbl'
        cases hbl'
        exact (ie.blk j b0 hb0).ren m2 rfl (b1 hj) (c1 hj) (hbok b0 (List.mem_of_getElem? hb0))
      · have hbl' : h[id]? = some bl := by rw [← gout hid]; exact hbl
        exact (i.blk id bl hbl').keep ext.toMono (b2 hid) (c2 hid) fun b hob => xo hid (by rw [owner_eq hbl']; exact hob)
    · rcases own2 ha with ⟨ja, hja, h2⟩ | ⟨hna, h2⟩
      · rcases own2 hc with ⟨jc, hjc, h3⟩ | ⟨hnc, h3⟩
        · have := ie.inj ja jc b h2 h3
          subst this
          rw [hja] at hjc; exact Option.some.inj hjc
        · obtain ⟨bl, hbl, hob⟩ := owner_some h3
          have := ownS ha ((i.blk c bl hbl).lt hob)
          exact i.inj a c b this h3
      · rcases own2 hc with ⟨jc, hjc, h3⟩ | ⟨hnc, h3⟩
        · obtain ⟨bl, hbl, hob⟩ := owner_some h2
          have := ownS hc ((i.blk a bl hbl).lt hob)
          exact i.inj a c b h2 this
        · exact i.inj a c b h2 h3
    · cases r1 with
      | ret v => obtain ⟨V, he, hV⟩ := hpost; exact ⟨V, he, ren_rel m2 hV hrok⟩
      | pan v => obtain ⟨V, he, hV⟩ := hpost; exact ⟨V, he, ren_rel m2 hV hrok⟩
end
end
section
open Go Go.RowKit

section
variable {G G' : Gh} {h h' : Heap} {w W W' : World} {l : Nat} {o : Obj}
theorem Inv.aside (i : Inv G h W) (ho : W.heap[l]? = some o) (hc : ∀ C e f, o ≠ .cells C e f) (hm : ∀ E c, o ≠ .map E c) : (∀ id, owner G h id ≠ some l) ∧ ∀ k, G.H l k = none := by
  constructor
  · intro id hid
    obtain ⟨bl, hb, hob⟩ := owner_some hid
    have hk := i.blk id bl hb
    cases bl with
    | free => cases hob
    | gone => cases hob
    | cells cs => obtain ⟨C, e, h1, _⟩ := hk; cases hob; rw [h1] at ho; exact hc _ _ _ (Option.some.inj ho).symm
    | tcells t cs => obtain ⟨C, h1, _⟩ := hk; cases hob; rw [h1] at ho; exact hc _ _ _ (Option.some.inj ho).symm
    | map es => obtain ⟨E, c, h1, _⟩ := hk; cases hob; rw [h1] at ho; exact hm _ _ (Option.some.inj ho).symm
    | front n sz t =>
      rcases hk with ⟨_, h1⟩ | ⟨b', cap, C, e, h1, h2, _⟩
      · simp [ownerB, h1, Value.ownBlock] at hob
      · simp [ownerB, h1, Value.ownBlock] at hob; subst hob; rw [h2] at ho; exact hc _ _ _ (Option.some.inj ho).symm
    | vec tot sz cs =>
      obtain ⟨b', cap, C, e, h1, h2, _⟩ := hk
      simp [ownerB, h1, Value.ownBlock] at hob; subst hob; rw [h2] at ho; exact hc _ _ _ (Option.some.inj ho).symm
  · intro k
    cases hv : G.H l k with
    | none => rfl
    | some v =>
      have := i.ok l k v hv
      unfold World.cell? at this
      rw [ho] at this
      cases o <;> simp at this
      exact absurd rfl (hc _ _ _)
/-- A block beside the abstract heap's turns. -/
theorem Inv.put (i : Inv G h W) (ho : W.heap[l]? = some o) (hc : ∀ C e f, o ≠ .cells C e f) (hm : ∀ E c, o ≠ .map E c) (o' : Obj) : Inv G h (W.putObj l o') := by
  obtain ⟨h1, h2⟩ := i.aside ho hc hm
  refine ⟨fun b k v hv => ?_, fun id bl hb => ?_, i.inj⟩
  · rw [World.cell?_of_block (w := W)]
    · exact i.ok b k v hv
    · exact World.putObj_heap_other fun e => by
        have e : b = l := e
        subst e
        rw [h2] at hv; cases hv
  · refine (i.blk id bl hb).keep ⟨fun _ _ _ h => h, fun id bl hb => ⟨bl, hb, Kind.refl G id bl⟩⟩ rfl rfl fun b hob => ⟨World.putObj_heap_other fun e => ?_, fun _ => rfl⟩
    subst e
    exact h1 id (by rw [owner_eq hb]; exact hob)
theorem Ext.put (x : Ext G h w G' h' W) (hl : w.heap.size ≤ l) (o' : Obj) : Ext G h w G' h' (W.putObj l o') :=
  ⟨x.os, x.tape, x.output, by rw [World.putObj_size]; exact x.size, fun b hb hn => ⟨(World.putObj_heap_other (by omega)).trans (x.frame b hb hn).1, (x.frame b hb hn).2⟩, x.hmono, x.own, x.kinds⟩
/-- New blocks come. -/
theorem Inv.grown (i : Inv G h W) (g : W.grownBy W' none) : Inv G h W' := by
  refine ⟨fun b k v hv => ?_, fun id bl hb => ?_, i.inj⟩
  · rw [World.cell?_of_block (w := W) (g.block b (i.H_lt hv) (by simp))]
    exact i.ok b k v hv
  · exact (i.blk id bl hb).keep ⟨fun _ _ _ h => h, fun id bl hb => ⟨bl, hb, Kind.refl G id bl⟩⟩ rfl rfl fun b hob => ⟨g.block b ((i.blk id bl hb).lt hob) (by simp), fun _ => rfl⟩
theorem Ext.grown (x : Ext G h w G' h' W) (g : W.grownBy W' none) : Ext G h w G' h' W' :=
  ⟨g.os.trans x.os, g.tape.trans x.tape, g.output.trans x.output, Nat.le_trans x.size g.size, fun b hb hn => ⟨(g.block b (Nat.lt_of_lt_of_le hb x.size) (by simp)).trans (x.frame b hb hn).1, (x.frame b hb hn).2⟩, x.hmono, x.own, x.kinds⟩
theorem grown_at (g : W.grownBy W' none) (ho : W.heap[l]? = some o) : W'.heap[l]? = some o := (g.block l (Array.getElem?_eq_some_iff.1 ho).1 (by simp)).trans ho

def markOf (D : Nat) : Deferred := { target := .collected D, args := #[] }
/-- The marks that ranges over functions have left. -/
def Marks (b : Nat) (w : World) (ds : List Deferred) : Prop := ∃ Ds : List Nat, ds = Ds.map markOf ∧ Ds.Nodup ∧ ∀ D ∈ Ds, b ≤ D ∧ w.heap[D]? = some (.deferred (some []))
theorem Ext.aside {w' : World} (x : Ext G h w G' h' w') (i : Inv G h w) (ho : w.heap[l]? = some o) (hc : ∀ C e f, o ≠ .cells C e f) (hm : ∀ E c, o ≠ .map E c) : w'.heap[l]? = some o :=
  (x.frame l (Array.getElem?_eq_some_iff.1 ho).1 (i.aside ho hc hm).1).1.trans ho
theorem Marks.ext {b : Nat} {w' : World} {ds : List Deferred} (m : Marks b w ds) (i : Inv G h w) (x : Ext G h w G' h' w') : Marks b w' ds := by
  obtain ⟨Ds, h1, h2, h3⟩ := m
  exact ⟨Ds, h1, h2, fun D hD => ⟨(h3 D hD).1, x.aside i (h3 D hD).2 (by simp) (by simp)⟩⟩
end

section
variable {cx : Cx} {G : Gh} {h : Heap} {w : World} {ρ : List AVal} {a : Act} {Q : Exit → Act → World → Prop}
theorem setPs_go {e : List AVal} : ∀ (ps : List Nat) (Es : List Value) (k : Nat) (ρ : List AVal) (T : Array Value), ρ.length = T.size → (∀ (i : Nat) (v : AVal), ρ[i]? = some v → RelV G h v (T.getD i undef)) → Es.length = ps.length →
    (∀ j, j < ps.length → RelV G h (e.getD (k + j) .junk) (Es.getD j undef)) →
    ((ps.zipIdx k).foldl (fun ρ x => ρ.set x.1 (e.getD x.2 .junk)) ρ).length = ((ps.zip Es).foldl (fun t (p, v) => t.setIfInBounds p v) T).size ∧
      ∀ (i : Nat) (v : AVal), ((ps.zipIdx k).foldl (fun ρ x => ρ.set x.1 (e.getD x.2 .junk)) ρ)[i]? = some v → RelV G h v (((ps.zip Es).foldl (fun t (p, v) => t.setIfInBounds p v) T).getD i undef)
  | [], _, _, _, _, h1, h2, _, _ => ⟨h1, h2⟩
  | p :: ps, [], _, _, _, _, _, h3, _ => by cases h3
  | p :: ps, E :: Es, k, ρ, T, h1, h2, h3, h4 => by
    simp only [List.zipIdx_cons, List.zip_cons_cons, List.foldl_cons]
    refine setPs_go ps Es (k + 1) _ _ (by simp [h1]) (fun i u hu => ?_) (by simpa using h3) (fun j hj => ?_)
    · rw [List.getElem?_set] at hu
      simp only [Array.getD_eq_getD_getElem?, Array.getElem?_setIfInBounds]
      by_cases hpi : p = i
      · subst hpi
        have hlt : p < ρ.length := by
          by_cases hlt : p < ρ.length
          · exact hlt
          · simp [hlt] at hu
        simp only [hlt, if_true] at hu
        cases hu
        rw [h1] at hlt
        simpa [hlt] using h4 0 (by simp)
      · simp only [hpi, if_false] at hu ⊢
        simpa [Array.getD_eq_getD_getElem?] using h2 i u hu
    · have := h4 (j + 1) (by simp; omega)
      simpa [show k + (j + 1) = k + 1 + j by omega] using this
theorem setPs_slots {ps : Array Tmp} {E : Array Value} {e : List AVal} (s : Slots (fun _ => True) G h ρ a) (hl : e.length = ps.size) (hE : e.length = E.size) (hr : ∀ (j : Nat) (v : AVal), e[j]? = some v → RelV G h v (E.getD j undef)) :
    Slots (fun _ => True) G h (setPs ρ ps.toList e) { tmps := (ps.zip E).foldl (fun t (p, v) => t.setIfInBounds p v) a.tmps, defers := [] } := by
  have key := setPs_go (G := G) (h := h) (e := e) ps.toList E.toList 0 ρ a.tmps s.len s.rel (by simp; omega) (fun j hj => by
    have hj : j < e.length := by simp at hj; omega
    have := hr j e[j] (List.getElem?_eq_getElem hj)
    rw [Nat.zero_add, List.getD_eq_getElem?_getD, List.getElem?_eq_getElem hj]
    simpa [Array.getD_eq_getD_getElem?, List.getD_eq_getElem?_getD] using this)
  have e1 : (ps.zip E).foldl (fun t (p, v) => t.setIfInBounds p v) a.tmps = (ps.toList.zip E.toList).foldl (fun t (p, v) => t.setIfInBounds p v) a.tmps := by
    rw [← Array.foldl_toList, Array.toList_zip]
  refine ⟨?_, ?_, trivial⟩
  · show (setPs ρ ps.toList e).length = _
    simp only [e1]; exact key.1
  · simp only [e1]; exact key.2
theorem setPs_length {ps : List Nat} {e : List AVal} : (setPs ρ ps e).length = ρ.length := by
  have : ∀ (l : List (Nat × Nat)) (ρ : List AVal), (l.foldl (fun ρ x => ρ.set x.1 (e.getD x.2 .junk)) ρ).length = ρ.length := by
    intro l
    induction l with
    | nil => intro ρ; rfl
    | cons x l ih => intro ρ; rw [List.foldl_cons, ih]; simp
  exact this _ _

/-- As ExPost, with the marks that are left. -/
def ExPostG (b n : Nat) (kn : List AVal → Heap → Option R) (ke : Ex → List AVal → Heap → Option R) (r : R) (G : Gh) (h : Heap) (w : World) (Q : Exit → Act → World → Prop) : Prop :=
  (∀ ρ' h' G' w' a', kn ρ' h' = some r → Ext G h w G' h' w' → Inv G' h' w' → Slots (fun _ => True) G' h' ρ' a' → Marks b w' a'.defers → ρ'.length = n → Q .normal a' w') ∧
  (∀ e ρ' h' G' w' a', ke e ρ' h' = some r → Ext G h w G' h' w' → Inv G' h' w' → Slots (fun _ => True) G' h' ρ' a' → Marks b w' a'.defers → ρ'.length = n →
    match e with
    | .exit id => Q (.exit id) a' w'
    | .ret => Q .ret a' w'
    | _ => True) ∧
  ∀ v ρ' h', ke (.pan v) ρ' h' = some r → False
theorem ExPostG.trans {b n : Nat} {kn : List AVal → Heap → Option R} {ke : Ex → List AVal → Heap → Option R} {r : R} {G' : Gh} {h' : Heap} {w' : World} (p : ExPostG b n kn ke r G h w Q) (x : Ext G h w G' h' w') : ExPostG b n kn ke r G' h' w' Q :=
  ⟨fun ρ2 h2 G2 w2 a2 e1 e2 e3 e4 e5 e6 => p.1 ρ2 h2 G2 w2 a2 e1 (x.trans e2) e3 e4 e5 e6, fun e ρ2 h2 G2 w2 a2 e1 e2 e3 e4 e5 e6 => p.2.1 e ρ2 h2 G2 w2 a2 e1 (x.trans e2) e3 e4 e5 e6, p.2.2⟩
theorem ExPostG.inBlock {id b n : Nat} {kn : List AVal → Heap → Option R} {ke : Ex → List AVal → Heap → Option R} {r : R} (p : ExPostG b n kn ke r G h w Q) : ExPostG b n kn (fun e ρ' h' => e.inBlock id (kn ρ' h') fun e => ke e ρ' h') r G h w (Exit.inBlock id Q) := by
  refine ⟨p.1, fun e ρ' h' G' w' a' h1 h2 h3 h4 h5 h6 => ?_, fun v ρ' h' h1 => p.2.2 v ρ' h' h1⟩
  cases e with
  | exit j =>
    simp only [Ex.inBlock] at h1
    simp only [Exit.inBlock]
    cases hj : j == id with
    | true =>
      rw [hj] at h1
      rw [if_pos (by simpa using hj)]
      exact p.1 ρ' h' G' w' a' h1 h2 h3 h4 h5 h6
    | false =>
      rw [hj] at h1
      rw [if_neg (by simpa using hj)]
      exact p.2.1 (.exit j) ρ' h' G' w' a' h1 h2 h3 h4 h5 h6
  | ret => exact p.2.1 .ret ρ' h' G' w' a' h1 h2 h3 h4 h5 h6
  | _ => trivial
theorem leafG {b : Nat} (hm : cx.P.follows .mixedOrders = true) (hX : ExtOk cx.P cx.A) (hK : SoundK cx.P cx.A cx.K) (hlp : LpOk cx.lp) {c : Code} {L : Nat} {kn : List AVal → Heap → Option R} {ke : Ex → List AVal → Heap → Option R} {r : R}
    (hb : evalCode cx c L ρ h kn ke = some r) (i : Inv G h w) (gl : GlobOk cx.A G h w) (s : Slots (fun _ => True) G h ρ a) (mk : Marks b w a.defers) (hn : ρ.length = cx.n) (hk : ExPostG b cx.n kn ke r G h w Q) (hno : ∀ a w, ¬ Q .outgrown a w) : c.wp cx.P Q a w :=
  evalCode_sound (J := fun a' => a'.defers = a.defers) hm hX hK hlp c L ρ h kn ke r G w a Q (jok_defers c) hb i gl ⟨s.len, s.rel, rfl⟩ hn
    ⟨fun ρ' h' G' w' a' h1 h2 h3 h4 h5 => hk.1 ρ' h' G' w' a' h1 h2 h3 ⟨h4.len, h4.rel, trivial⟩ (by rw [h4.df]; exact mk.ext i h2) h5,
     fun e ρ' h' G' w' a' h1 h2 h3 h4 h5 => hk.2.1 e ρ' h' G' w' a' h1 h2 h3 ⟨h4.len, h4.rel, trivial⟩ (by rw [h4.df]; exact mk.ext i h2) h5, fun v ρ' h' _ _ _ _ h1 => (hk.2.2 v ρ' h' h1).elim⟩ hno
theorem aiter_some {A : Ann} {n : Nat} {v : AVal} {x : IterK × List AVal × List (List AVal)} (hb : aiter A n v h = some x) :
    ∃ f, v = .func f [] x.2.1 ∧ A.itr f = some x.1 ∧ x.1.seq x.2.1 h = some x.2.2 ∧ ∀ e ∈ x.2.2, e.length = n := by
  unfold aiter at hb
  split at hb
  case h_2 => cases hb
  rename_i f cap
  split at hb
  case h_2 => cases hb
  rename_i k hk
  split at hb
  case h_2 => cases hb
  rename_i es hes
  cases hl : es.all (fun e => e.length == n) with
  | false => rw [hl] at hb; cases hb
  | true =>
    rw [hl] at hb
    cases hb
    exact ⟨f, rfl, hk, hes, fun e he => by simpa using List.all_eq_true.1 hl e he⟩
theorem plain_jok : ∀ c : Code, JOk (fun _ => True) c
  | .region _ _ _ => fun _ _ _ _ _ => trivial
  | .seq a b | .cond _ a b => ⟨plain_jok a, plain_jok b⟩
  | .block _ c | .loop c | .scope c => plain_jok c
  | .skip | .exit _ | .ret | .label _ | .goto _ | .refuse _ | .rangeFunc .. => trivial
theorem endOut_some {m : Nat} {e : Ex} {vs : List AVal} {s : R} (hb : endOut m e vs h = some s) : (e = .ret ∨ ∃ id, e = .exit id) ∧ ∃ h3, trunc m h = some h3 ∧ s = (e, [], h3) := by
  unfold endOut Ex.onlyOut at hb
  cases e with
  | ret =>
    simp only [endR, Option.map_eq_some_iff] at hb
    obtain ⟨h3, h1, rfl⟩ := hb
    exact ⟨.inl rfl, h3, h1, rfl⟩
  | exit id =>
    simp only [endR, Option.map_eq_some_iff] at hb
    obtain ⟨h3, h1, rfl⟩ := hb
    exact ⟨.inr ⟨id, rfl⟩, h3, h1, rfl⟩
  | _ => cases hb
def outCode : Ex → Code
  | .exit id => .exit id
  | _ => .ret

set_option maxHeartbeats 1000000 in
theorem range_sound {b L : Nat} (hm : cx.P.follows .mixedOrders = true) (hX : ExtOk cx.P cx.A) (hK : SoundK cx.P cx.A cx.K) (hlp : LpOk cx.lp) {g : Operand} {ps : Array Tmp} {ca cb : Code} {kn : List AVal → Heap → Option R} {ke : Ex → List AVal → Heap → Option R} {r : R}
    (hb : evalRg cx (.rangeFunc g ps ca cb) L ρ h kn ke = some r) (i : Inv G h w) (gl : GlobOk cx.A G h w) (s : Slots (fun _ => True) G h ρ a) (mk : Marks b w a.defers) (hbw : b ≤ w.heap.size) (hn : ρ.length = cx.n) (hk : ExPostG b cx.n kn ke r G h w Q) : (Code.rangeFunc g ps ca cb).wp cx.P Q a w := by
  simp only [evalRg] at hb
  cases hp : plainRd ca && plainRd cb with
  | false => rw [hp] at hb; cases hb
  | true =>
  rw [hp] at hb
  have hp : plainRd ca = true ∧ plainRd cb = true := by simpa using hp
  simp only [cond_true] at hb
  obtain ⟨x, hx, hb⟩ := Option.bind_eq_some_iff.1 hb
  obtain ⟨s0, hs0, hk0⟩ := Option.bind_eq_some_iff.1 hb
  obtain ⟨f, hv, hitr, hseq, hlen⟩ := aiter_some hx
  obtain ⟨k, cap, es⟩ := x
  simp only at hv hitr hseq hlen hs0
  have hgv := s.eval gl.cells g
  rw [hv] at hgv
  obtain ⟨F0, C, hg, hF0, hC, _, hCr⟩ := hgv.func_inv
  obtain rfl : F0 = #[] := Array.eq_empty_of_size_eq_zero (by simpa using hF0.symm)
  obtain ⟨hcf, hit⟩ := hX.2.2.2.2 f k hitr
  obtain ⟨Es, hEl, hE, hrun⟩ := hit cap h es hseq G w C i hC hCr
  refine (wpIn_wide (n := 1)).1 (wpIn_rangeFunc ?_)
  intro fn _
  obtain ⟨rec, hrec⟩ : ∃ rec : LoopState → Option Code → Loop, rec = fun st pe => { state := st, pending := pe, fn, tmps := a.tmps, params := ps, assign := ca, body := cb, defers := w.heap.size } := ⟨_, rfl⟩
  obtain ⟨W1, hW1⟩ : ∃ W1, (w.alloc (.deferred (some []))).alloc (.loop (rec .ready none)) = W1 := ⟨_, rfl⟩
  have hL1 : W1.heap[w.heap.size + 1]? = some (.loop (rec .ready none)) := by
    rw [← hW1]; have := World.alloc_heap_new (w.alloc (.deferred (some []))) (.loop (rec .ready none)); rwa [World.size_alloc] at this
  have hD1 : W1.heap[w.heap.size]? = some (.deferred (some [])) := by
    rw [← hW1]; exact (Below.heap_alloc _ _ _ (by simp)).trans (World.alloc_heap_new w _)
  have hg1 : w.grownBy W1 none := by
    have g1 := World.grownBy_alloc w (.deferred (some [])) none
    have g2 := World.grownBy_alloc (w.alloc (.deferred (some []))) (.loop (rec .ready none)) none
    rw [hW1] at g2
    exact ⟨g2.os.trans g1.os, g2.tape.trans g1.tape, g2.output.trans g1.output, Nat.le_trans g1.size g2.size, fun k hk hr => (g2.block k (Nat.lt_of_lt_of_le hk g1.size) hr).trans (g1.block k hk hr)⟩
  have i1 : Inv G h W1 := i.grown hg1
  have x1 : Ext G h w G h W1 := (Ext.refl G h w).grown hg1
  -- what holds between two rounds, and behind the last one
  obtain ⟨J, hJ⟩ : ∃ J : Nat → World → Prop, J = fun n W => ∃ G' h', rfL cap h (evalRd cx ps.toList ca cb ρ h.length) (es.drop n) h' = some s0 ∧ Inv G' h' W ∧ Ext G h w G' h' W ∧ h'.length = h.length ∧ (∀ p ∈ cap, aload false 1 h' p = aload false 1 h p) ∧
      W.heap[w.heap.size + 1]? = some (.loop (rec .ready none)) ∧ W.heap[w.heap.size]? = some (.deferred (some [])) := ⟨_, rfl⟩
  obtain ⟨Jx, hJx⟩ : ∃ Jx : World → Prop, Jx = fun W => ∃ G' h' e, s0 = (e, [], h') ∧ (e = .ret ∨ ∃ id, e = .exit id) ∧ Inv G' h' W ∧ Ext G h w G' h' W ∧
      W.heap[w.heap.size + 1]? = some (.loop (rec .done (some (outCode e)))) ∧ W.heap[w.heap.size]? = some (.deferred (some [])) := ⟨_, rfl⟩
  have fin : ∀ (G' : Gh) (h' : Heap) (W : World) (jump : Option Code) (st : LoopState), st ≠ .busy → Inv G' h' W → Ext G h w G' h' W → W.heap[w.heap.size + 1]? = some (.loop (rec st jump)) → W.heap[w.heap.size]? = some (.deferred (some [])) →
      ∃ w₄, (Instr.endLoop (w.heap.size + 1)).run cx.P W = .ok jump w₄ ∧ Inv G' h' w₄ ∧ Ext G h w G' h' w₄ ∧ Slots (fun _ => True) G' h' ρ { a with defers := [{ target := .collected w.heap.size, args := #[] }] ++ a.defers } ∧ Marks b w₄ ([{ target := .collected w.heap.size, args := #[] }] ++ a.defers) := by
    intro G' h' W jump st hst i' x' hl hd
    refine ⟨W.putObj (w.heap.size + 1) (.loop { rec st jump with state := .exhausted }), ?_, i'.put hl (by simp) (by simp) _, x'.put (by omega) _, ⟨s.len, fun j v hv => (s.rel j v hv).mono x'.toMono, trivial⟩, ?_⟩
    · have := run_endLoop (P := cx.P) hl (by rw [hrec]; exact hst)
      rw [hrec] at this ⊢
      exact this
    · obtain ⟨Ds, e1, e2, e3⟩ := mk
      refine ⟨w.heap.size :: Ds, by rw [e1]; rfl, List.nodup_cons.2 ⟨fun hm => ?_, e2⟩, fun D hD => ?_⟩
      · have := (Array.getElem?_eq_some_iff.1 (e3 _ hm).2).1
        omega
      · rcases List.mem_cons.1 hD with rfl | hD
        · exact ⟨hbw, (World.putObj_heap_other (by omega)).trans hd⟩
        · have hlt := (Array.getElem?_eq_some_iff.1 (e3 _ hD).2).1
          exact ⟨(e3 _ hD).1, (World.putObj_heap_other (by omega)).trans (x'.aside i (e3 _ hD).2 (by simp) (by simp))⟩
  refine ⟨w.heap.size + 1, [{ target := .collected w.heap.size, args := #[] }], W1, { target := .fn (.func f) C, args := #[.func (.yield (w.heap.size + 1)) #[] #[]] }, W1, f,
    #[.func (.yield (w.heap.size + 1)) #[] #[]] ++ C, W1, ?_, ?_, fun _ _ => trivial, ?_, (fun h => by cases h), ?_⟩
  · rw [← hW1, hrec]; exact run_enterLoop_outer _ _ _ _ _
  · simp only [resolve, hg]
    simp [go_sem]
  · simp [invoke, go_sem, hcf]
  · refine (hrun (w.heap.size + 1) (1 - 1) J Jx ?_ ?_ ?_ ?_ W1 hg1 ?_).mono ?_
    · intro n W W' hj hg
      rw [hJ] at hj ⊢
      obtain ⟨G', h', e1, e2, e3, e4, e5, e6, e7⟩ := hj
      exact ⟨G', h', e1, e2.grown hg, e3.grown hg, e4, e5, grown_at hg e6, grown_at hg e7⟩
    · intro W W' hj hg
      rw [hJx] at hj ⊢
      obtain ⟨G', h', e, e1, e2, e3, e4, e5, e6⟩ := hj
      exact ⟨G', h', e, e1, e2, e3.grown hg, e4.grown hg, grown_at hg e5, grown_at hg e6⟩
    · intro n W hj
      rw [hJ] at hj
      obtain ⟨G', h', e1, e2, e3, e4, e5, e6, e7⟩ := hj
      exact ⟨G', h', e2, fun j v hv => (hCr j v hv).mono e3.toMono, e5, e3.hmono⟩
    · -- one round
      intro n E W hEn hj
      rw [hJ] at hj
      obtain ⟨G', h', e1, i', x', hl', hs', hL, hD⟩ := hj
      obtain ⟨e, he⟩ : ∃ e, es[n]? = some e := by
        have := (List.getElem?_eq_some_iff.1 hEn).1
        exact ⟨es[n]'(by omega), List.getElem?_eq_getElem _⟩
      obtain ⟨hsz, hrel⟩ := hE n e E he hEn
      have hps : e.length = ps.size := hlen e (List.mem_of_getElem? he)
      have hdrop : es.drop n = e :: es.drop (n + 1) := by
        obtain ⟨hlt, hee⟩ := List.getElem?_eq_some_iff.1 he
        rw [List.drop_eq_getElem_cons hlt, hee]
      rw [hdrop] at e1
      simp only [rfL] at e1
      obtain ⟨s1, hs1, e2⟩ := Option.bind_eq_some_iff.1 e1
      have hy := run_yield (P := cx.P) (args := E) hL (by rw [hrec]; exact hsz.symm.trans hps)
      rw [hrec] at hy
      refine ⟨fn, _, ca, cb, hy, roundIn_of_wpIn trivial ?_⟩
      unfold evalRd at hs1
      have sl := setPs_slots (ps := ps) (E := E) (e := e) (a := a) (ρ := ρ) (G := G') (h := h') ⟨s.len, fun j v hv => (s.rel j v hv).mono x'.toMono, trivial⟩ hps hsz (fun j v hv => .p _ _ ((hrel j v hv).mono x'.hmono))
      refine evalCode_soundR (rd := some (w.heap.size + 1)) (J := fun _ => True) hm hX hK hlp ca _ _ h' _ _ s1 G' W _ _ (plain_jok ca) hs1 i' (gl.mono x') sl (by rw [setPs_length]; exact hn) ⟨?_, ?_, ?_⟩ (.inr hp.1) (fun _ _ hq => hq)
      · intro ρ1 h1 G1 w1 a1 f1 y1 i1' s1' hn1
        have hL1' := y1.aside i' hL (by simp) (by simp)
        have hD1' := y1.aside i' hD (by simp) (by simp)
        have hlt := (Array.getElem?_eq_some_iff.1 hL1').1
        refine ⟨_, run_beginRound hL1' (by rw [hrec]), ?_⟩
        obtain ⟨W2, hW2⟩ : ∃ W2, w1.putObj (w.heap.size + 1) (.loop { rec .ready none with state := .busy }) = W2 := ⟨_, rfl⟩
        rw [hW2]
        have iW : Inv G1 h1 W2 := hW2 ▸ i1'.put hL1' (by simp) (by simp) _
        have xW : Ext G h w G1 h1 W2 := hW2 ▸ (x'.trans y1).put (by omega) _
        have hL2 : W2.heap[w.heap.size + 1]? = some (.loop { rec .ready none with state := .busy }) := by rw [← hW2]; exact World.putObj_heap_same hlt
        have hD2 : W2.heap[w.heap.size]? = some (.deferred (some [])) := by rw [← hW2]; exact (World.putObj_heap_other (by omega)).trans hD1'
        refine evalCode_soundR (rd := some (w.heap.size + 1)) (J := fun _ => True) hm hX hK hlp cb _ _ h1 _ _ s1 G1 W2 a1 _ (plain_jok cb) f1 iW (gl.mono xW) s1' hn1 ⟨?_, ?_, ?_⟩ (.inr hp.2) (fun _ _ hq => hq)
        · intro ρ2 h2 G2 w2 a2 f2 y2 i2 s2 hn2
          simp only [endRd, endR, Option.map_eq_some_iff] at f2
          obtain ⟨h3, ht, rfl⟩ := f2
          obtain ⟨G3, i3, x3, hl3, _, _⟩ := trunc_ok (xW.trans y2) i2 ht
          have hL3 := y2.aside iW hL2 (by simp) (by simp)
          have hD3 := y2.aside iW hD2 (by simp) (by simp)
          refine ⟨_, _, run_endRound none hL3, .inl ⟨rfl, ?_⟩⟩
          simp only [Ex.san, Ex.thenDo] at e2
          obtain ⟨hcond, e2⟩ := onIf_some.1 e2
          rw [hJ]
          refine ⟨G3, h3, e2, i3.put hL3 (by simp) (by simp) _, x3.put (by omega) _, hl3, hcond, ?_, (World.putObj_heap_other (by omega)).trans hD3⟩
          rw [World.putObj_heap_same (Array.getElem?_eq_some_iff.1 hL3).1, hrec]
          rfl
        · intro ex ρ2 h2 G2 w2 a2 f2 y2 i2 s2 hn2
          obtain ⟨hex, h3, ht, rfl⟩ := endOut_some f2
          obtain ⟨G3, i3, x3, hl3, _, _⟩ := trunc_ok (xW.trans y2) i2 ht
          have hL3 := y2.aside iW hL2 (by simp) (by simp)
          have hD3 := y2.aside iW hD2 (by simp) (by simp)
          have hlt3 := (Array.getElem?_eq_some_iff.1 hL3).1
          have out : ∀ c, c = outCode ex → some (ex, ([] : List AVal), h3) = some s0 → Jx (w2.putObj (w.heap.size + 1) (.loop { { rec .ready none with state := .busy } with state := if (some c).isNone then .ready else .done, pending := some c })) := by
            intro c hc hs
            rw [hJx]
            refine ⟨G3, h3, ex, (Option.some.inj hs).symm, hex, i3.put hL3 (by simp) (by simp) _, x3.put (by omega) _, ?_, (World.putObj_heap_other (by omega)).trans hD3⟩
            rw [World.putObj_heap_same hlt3, hrec, hc]
            rfl
          rcases hex with rfl | ⟨id, rfl⟩
          · exact ⟨_, _, run_endRound (some .ret) hL3, .inr ⟨rfl, out _ rfl e2⟩⟩
          · exact ⟨_, _, run_endRound (some (.exit id)) hL3, .inr ⟨rfl, out _ rfl e2⟩⟩
        · intro v ρ2 h2 G2 w2 a2 V f2
          obtain ⟨hex, _⟩ := endOut_some f2
          rcases hex with hex | ⟨_, hex⟩ <;> cases hex
      · intro ex ρ1 h1 G1 w1 a1 f1
        cases f1
      · intro v ρ1 h1 G1 w1 a1 V f1
        cases f1
    · rw [hJ]
      exact ⟨G, h, hs0, i1, x1, rfl, fun _ _ => rfl, hL1, hD1⟩
    · rintro e W' ⟨⟨v, rfl⟩, hj | hj⟩
      · rw [hJ] at hj
        obtain ⟨G', h', e1, e2, e3, e4, e5, e6, e7⟩ := hj
        rw [List.drop_length] at e1
        simp only [rfL, Option.some.injEq] at e1
        subst e1
        obtain ⟨w₄, q1, q2, q3, q4, q5⟩ := fin G' h' W' none .ready (by simp) e2 e3 e6 e7
        exact ⟨none, w₄, q1, hk.1 ρ h' G' w₄ _ hk0 q3 q2 q4 q5 hn⟩
      · rw [hJx] at hj
        obtain ⟨G', h', e, e1, e2, e3, e4, e5, e6⟩ := hj
        subst e1
        obtain ⟨w₄, q1, q2, q3, q4, q5⟩ := fin G' h' W' (some (outCode e)) .done (by simp) e3 e4 e5 e6
        refine ⟨_, w₄, q1, ?_⟩
        rcases e2 with rfl | ⟨id, rfl⟩
        · exact wpIn_ret (hk.2.1 .ret ρ h' G' w₄ _ hk0 q3 q2 q4 q5 hn)
        · exact wpIn_exit (hk.2.1 (.exit id) ρ h' G' w₄ _ hk0 q3 q2 q4 q5 hn)

theorem evalRg_sound {b : Nat} (hm : cx.P.follows .mixedOrders = true) (hX : ExtOk cx.P cx.A) (hK : SoundK cx.P cx.A cx.K) (hlp : LpOk cx.lp) : ∀ (c : Code) (L : Nat) (ρ : List AVal) (h : Heap) (kn : List AVal → Heap → Option R) (ke : Ex → List AVal → Heap → Option R) (r : R) (G : Gh) (w : World) (a : Act) (Q : Exit → Act → World → Prop),
    evalRg cx c L ρ h kn ke = some r → Inv G h w → GlobOk cx.A G h w → Slots (fun _ => True) G h ρ a → Marks b w a.defers → b ≤ w.heap.size → ρ.length = cx.n → ExPostG b cx.n kn ke r G h w Q → (∀ a w, ¬ Q .outgrown a w) → c.wp cx.P Q a w := by
  intro c
  induction c with
  | rangeFunc g ps ca cb => exact fun L ρ h kn ke r G w a Q hb i gl s mk hbw hn hk _ => range_sound hm hX hK hlp hb i gl s mk hbw hn hk
  | seq x y ihx ihy =>
    intro L ρ h kn ke r G w a Q hb i gl s mk hbw hn hk hno
    refine wp_seq (ihx _ ρ h _ _ r G w a _ hb i gl s mk hbw hn ⟨fun ρ' h' G' w' a' h1 h2 h3 h4 h5 h6 => ?_, fun e ρ' h' G' w' a' h1 h2 h3 h4 h5 h6 => ?_, hk.2.2⟩ (fun a w hq => hno a w hq))
    · exact ihy L ρ' h' kn ke r G' w' a' Q h1 h3 (gl.mono h2) h4 h5 (Nat.le_trans hbw h2.size) h6 (hk.trans h2) hno
    · have := hk.2.1 e ρ' h' G' w' a' h1 h2 h3 h4 h5 h6
      cases e <;> first | exact this | trivial
  | block id c ih =>
    intro L ρ h kn ke r G w a Q hb i gl s mk hbw hn hk hno
    exact wp_block (ih L ρ h _ _ r G w a _ hb i gl s mk hbw hn hk.inBlock (fun a w hq => hno a w hq))
  | _ => exact fun L ρ h kn ke r G w a Q hb i gl s mk _ hn hk hno => leafG hm hX hK hlp hb i gl s mk hn hk hno

theorem leavesM {P : Program} {fn : Func} {T : Array Value} {S : Ending → World → Prop} {G' : Gh} {h' : Heap} (fin : ∀ w', Inv G' h' w' → Ext G h w G' h' w' → ∃ v, (results fn T).run P w' = .ok v w' ∧ S (.returned v) w') :
    ∀ (Ds : List Nat) (w' : World), Inv G' h' w' → Ext G h w G' h' w' → Ds.Nodup → (∀ D ∈ Ds, w.heap.size ≤ D ∧ w'.heap[D]? = some (.deferred (some []))) → LeavesInM Fence.wide 0 P fn T S (Ds.map markOf) .returning w'
  | [], w', i, x, _, _ => fin w' i x
  | D :: Ds, w', i, x, hn, hd => by
    obtain ⟨h1, h2⟩ := hd D (by simp)
    obtain ⟨n1, n2⟩ := List.nodup_cons.1 hn
    refine ⟨by simp, .inl ⟨D, _, rfl, run_takeDeferred h2, leavesM fin Ds _ (i.put h2 (by simp) (by simp) _) (x.put h1 _) n2 fun D' hD' => ⟨(hd D' (by simp [hD'])).1, ?_⟩⟩⟩
    exact (World.putObj_heap_other fun e => n1 (by rw [← e]; exact hD')).trans (hd D' (by simp [hD'])).2
end
end
section
open Go Go.RowKit

section
variable {P : Program} {A : Ann} {K : CallO} {lp : LpT} {G : Gh} {h : Heap} {w : World}

theorem finish_sound {f : Nat} {v : AVal} {V : Value} {r : Res} {h' h2 : Heap} {G' : Gh} {w' : World} (hb : finish A f h.length v h' = some (r, h2)) (x : Ext G h w G' h' w') (i : Inv G' h' w') (hv : RelV G' h' v V) :
    CallPost G h w r h2 (.returned V) w' := by
  unfold finish at hb
  cases he : A.esc f with
  | true =>
    rw [he] at hb; cases hb
    exact ⟨G', x, i, V, rfl, hv⟩
  | false =>
    rw [he] at hb
    simp only [cond_false] at hb
    cases hg : A.grow f with
    | true =>
      rw [hg] at hb
      simp only [cond_true, finG, Option.map_eq_some_iff] at hb
      obtain ⟨h3, ht, hb⟩ := hb
      obtain ⟨G3, i3, x3, _, hrel, _⟩ := trunc_ok x i ht
      cases hb
      exact ⟨G3, x3, i3, V, rfl, hrel _ _ hv⟩
    | false =>
      rw [hg] at hb
      cases hz : A.frr f with
      | true =>
        rw [hz] at hb
        simp only [cond_true, cond_false, finF] at hb
        obtain ⟨y, hy, hb⟩ := Option.bind_eq_some_iff.1 hb
        obtain ⟨G1, i1, x1, r1⟩ := afreeze_sound i hy hv
        simp only [finR, Option.map_eq_some_iff] at hb
        obtain ⟨h3, ht, hb⟩ := hb
        obtain ⟨G3, i3, x3, _, hrel, _⟩ := trunc_ok (x.trans x1) i1 ht
        cases hb
        exact ⟨G3, x3, i3, V, rfl, untok_rel (hrel _ _ r1)⟩
      | false =>
      rw [hz] at hb
      cases hout : A.out f with
      | true =>
        rw [hout] at hb
        simp only [cond_true, cond_false] at hb
        exact finO_sound hb x i hv
      | false =>
        rw [hout] at hb
        simp only [cond_false, finR, Option.map_eq_some_iff] at hb
        obtain ⟨h3, ht, hb⟩ := hb
        obtain ⟨G3, i3, x3, _, hrel, _⟩ := trunc_ok x i ht
        cases hb
        exact ⟨G3, x3, i3, V, rfl, untok_rel (hrel _ _ hv)⟩

theorem aresults_some {ρ : List AVal} {x : Res × Heap} : ∀ {l : List ResultVar} {k : List AVal → Option (Res × Heap)}, aresults P ρ h l k = some x → ∃ vs, l.mapM (aresult P ρ h) = some vs ∧ k vs = some x
  | [], k, hb => ⟨[], rfl, hb⟩
  | .tmp t :: l, k, hb => by
    obtain ⟨vs, h1, h2⟩ := aresults_some (l := l) hb
    exact ⟨ρ.getD t .junk :: vs, by simp [List.mapM_cons, aresult, h1], h2⟩
  | .cell a t :: l, k, hb => by
    simp only [aresults] at hb
    split at hb
    · rename_i g n hg hn
      obtain ⟨v, hv, hb⟩ := Option.bind_eq_some_iff.1 hb
      obtain ⟨vs, h1, h2⟩ := aresults_some (l := l) hb
      exact ⟨v :: vs, by simp only [List.getD_eq_getElem?_getD] at hv; simp [List.mapM_cons, aresult, hg, hn, hv, h1], h2⟩
    · cases hb

theorem noOut (G : Gh) (h : Heap) (w : World) (r : Res) (h' : Heap) : ∀ w', ¬ CallPost G h w r h' .outgrown w' := by
  rintro w' ⟨G', _, _, hq⟩
  cases r with
  | ret v => obtain ⟨_, hq, _⟩ := hq; cases hq
  | pan v => obtain ⟨_, hq, _⟩ := hq; cases hq

theorem evalFn_sound {f : Nat} {fn : Func} {c : Code} {args : List AVal} {X : Array Value} {r : Res} {h' : Heap} (hm : P.follows .mixedOrders = true) (hX : ExtOk P A) (hK : SoundK P A K) (hlp : LpOk lp)
    (hf : P.funcs[f]? = some fn) (hc : fn.body = some c) (hb : evalFn P A K lp f fn c args h = some (r, h')) (i : Inv G h w) (gl : GlobOk A G h w) (hx : RelVs G h args X) (hn : args.length ≤ fn.ntmps) :
    Calls P f X w (CallPost G h w r h') := by
  unfold evalFn at hb
  obtain ⟨r0, hr0, hend⟩ := Option.bind_eq_some_iff.1 hb
  cases hd : A.dfr f with
  | true =>
    rw [hd] at hr0
    simp only [evalBody] at hr0
    refine calls_of_wp_defers hf hc ?_
    refine evalPre_sound (noOut G h w r h') (cx := { P, A, K, lp, n := fn.ntmps, full := 2 ^ fn.ntmps - 1, pan := false, vec := A.vecs f, frz := A.frz f, vlit := A.vlits f, vmk := A.vmk f, jt := A.jt f, lkp := A.lkp f, rb := A.rb f, frl := A.frl f, tb := A.tb f, ck := A.ck f }) hm hX hK hlp rfl c _ _ h r0 G w _ hr0 i gl (relVs_slots hx hn) (by simp; omega) ?_
    intro a' G' w' he x2 i2 s2
    have hend' : aresults P (unpack fn.ntmps (resBits fn) r0.2.1) r0.2.2 fn.results.toList (fun vs => finish A f h.length (oneOf vs) r0.2.2) = some (r, h') := by
      unfold endFn at hend
      rw [he] at hend
      cases hp : A.pan f <;> rw [hp] at hend <;> exact hend
    obtain ⟨vs, hvs, hend'⟩ := aresults_some hend'
    obtain ⟨V, hV, hrel⟩ := results_sound hvs i2 s2
    exact ⟨V, hV, finish_sound hend' x2 i2 hrel⟩
  | false =>
  rw [hd] at hr0
  simp only [evalBody] at hr0
  refine calls_of_wp hf hc ?_
  refine evalCode_sound (cx := { P, A, K, lp, n := fn.ntmps, full := 2 ^ fn.ntmps - 1, pan := A.pan f, vec := A.vecs f, frz := A.frz f, vlit := A.vlits f, vmk := A.vmk f, jt := A.jt f, lkp := A.lkp f, rb := A.rb f, frl := A.frl f, tb := A.tb f, ck := A.ck f }) hm hX hK hlp c _ _ h _ _ r0 G w _ _ (jok_defers c) hr0 i gl (relVs_slots hx hn) (by simp; omega) ?_ (fun _ w' hq => noOut G h w r h' w' hq)
  have ret : ∀ (e : Ex) (ρ' : List AVal) (h1 : Heap) (G' : Gh) (w' : World) (a' : Act), (e = .normal ∨ e = .ret) → endFn P A f fn h.length e (unpack fn.ntmps (resBits fn) (pack (resBits fn) ρ')) h1 = some (r, h') → Ext G h w G' h1 w' → Inv G' h1 w' → Slots (fun a => a.defers = []) G' h1 ρ' a' → ρ'.length = fn.ntmps →
      a'.defers = [] ∧ ∃ v, (results fn a'.tmps).run P w' = .ok v w' ∧ CallPost G h w r h' (.returned v) w' := by
    intro e ρ' h1 G' w' a' he hend h3 h4 s hn'
    have s' := s.pack (L := resBits fn) hn'
    have hend' : aresults P (unpack fn.ntmps (resBits fn) (pack (resBits fn) ρ')) h1 fn.results.toList (fun vs => finish A f h.length (oneOf vs) h1) = some (r, h') := by
      unfold endFn at hend
      cases hp : A.pan f <;> rw [hp] at hend <;> rcases he with rfl | rfl <;> exact hend
    obtain ⟨vs, hvs, hend'⟩ := aresults_some hend'
    obtain ⟨V, hV, hrel⟩ := results_sound hvs h4 s'
    exact ⟨s.df, V, hV, finish_sound hend' h3 h4 hrel⟩
  refine ⟨fun ρ' h1 G' w' a' h2 h3 h4 h5 h6 => ?_, fun e ρ' h1 G' w' a' h2 h3 h4 h5 h6 => ?_, fun v ρ' h1 G' w' a' V h2 h3 h4 h5 h6 => ?_⟩
  · cases h2
    exact ret _ ρ' h1 G' w' a' (.inl rfl) hend h3 h4 h5 h6
  · cases h2
    cases e with
    | ret => exact ret _ ρ' h1 G' w' a' (.inr rfl) hend h3 h4 h5 h6
    | exit id => unfold endFn at hend; cases hp : A.pan f <;> rw [hp] at hend <;> cases hend
    | _ => trivial
  · cases h2
    unfold endFn at hend
    cases hp : A.pan f with
    | false => rw [hp] at hend; cases hend
    | true =>
      rw [hp] at hend
      simp only [cond_true, Ex.endP] at hend
      cases hkp : A.kp f with
      | true =>
        rw [hkp] at hend
        simp only [cond_true] at hend
        cases hend
        exact ⟨h6, G', h3, h4, V, rfl, h5⟩
      | false =>
      rw [hkp] at hend
      simp only [cond_false, finP, Option.map_eq_some_iff] at hend
      obtain ⟨h3', ht, hend⟩ := hend
      obtain ⟨G3, i3, x3, _, hrel, _⟩ := trunc_ok h3 h4 ht
      cases hend
      exact ⟨h6, G3, x3, i3, V, rfl, untok_rel (hrel _ _ h5)⟩

theorem evalFnG_sound {f : Nat} {fn : Func} {c : Code} {args : List AVal} {X : Array Value} {r : Res} {h' : Heap} (hm : P.follows .mixedOrders = true) (hX : ExtOk P A) (hK : SoundK P A K) (hlp : LpOk lp)
    (hf : P.funcs[f]? = some fn) (hc : fn.body = some c) (hb : evalFnG P A K lp f fn c args h = some (r, h')) (i : Inv G h w) (gl : GlobOk A G h w) (hx : RelVs G h args X) (hn : args.length ≤ fn.ntmps) :
    Calls P f X w (CallPost G h w r h') := by
  unfold evalFnG at hb
  cases hp : A.pan f with
  | true => rw [hp] at hb; cases hb
  | false =>
  rw [hp] at hb
  obtain ⟨r0, hr0, hend⟩ := Option.bind_eq_some_iff.1 hb
  refine (callsIn_wide (n := 0)).1 (callsIn_of_wp_marks hf hc trivial ((wpIn_wide (n := 0)).2 ?_))
  have s0 := relVs_slots hx hn
  have ret : ∀ (e : Ex) (ρ' : List AVal) (h1 : Heap) (G' : Gh) (w' : World) (a' : Act), (e = .normal ∨ e = .ret) → endFn P A f fn h.length e (unpack fn.ntmps (resBits fn) (pack (resBits fn) ρ')) h1 = some (r, h') → Ext G h w G' h1 w' → Inv G' h1 w' → Slots (fun _ => True) G' h1 ρ' a' → Marks w.heap.size w' a'.defers → ρ'.length = fn.ntmps →
      LeavesInM Fence.wide 0 P fn a'.tmps (CallPost G h w r h') a'.defers .returning w' := by
    intro e ρ' h1 G' w' a' he hend h3 h4 s mk hn'
    have s' := s.pack (L := resBits fn) hn'
    have hend' : aresults P (unpack fn.ntmps (resBits fn) (pack (resBits fn) ρ')) h1 fn.results.toList (fun vs => finish A f h.length (oneOf vs) h1) = some (r, h') := by
      unfold endFn at hend
      rw [hp] at hend
      rcases he with rfl | rfl <;> exact hend
    obtain ⟨vs, hvs, hend'⟩ := aresults_some hend'
    obtain ⟨Ds, e1, e2, e3⟩ := mk
    rw [e1]
    refine leavesM (fun w2 i2 x2 => ?_) Ds w' h4 h3 e2 e3
    obtain ⟨V, hV, hrel⟩ := results_sound hvs i2 s'
    exact ⟨V, hV, finish_sound hend' x2 i2 hrel⟩
  refine evalRg_sound (b := w.heap.size) (cx := { P, A, K, lp, n := fn.ntmps, full := 2 ^ fn.ntmps - 1, pan := false, vec := A.vecs f, frz := A.frz f, vlit := A.vlits f, vmk := A.vmk f, jt := A.jt f, lkp := A.lkp f, rb := A.rb f, frl := A.frl f, tb := A.tb f, ck := A.ck f }) hm hX hK hlp c _ _ h _ _ r0 G w _ _ hr0 i gl ⟨s0.len, s0.rel, trivial⟩ ⟨[], rfl, List.nodup_nil, by simp⟩ (Nat.le_refl _) (by simp; omega) ⟨?_, ?_, ?_⟩ (fun _ w' hq => noOut G h w r h' w' hq)
  · intro ρ' h1 G' w' a' h2 h3 h4 h5 h6 h7
    cases h2
    exact ret _ ρ' h1 G' w' a' (.inl rfl) hend h3 h4 h5 h6 h7
  · intro e ρ' h1 G' w' a' h2 h3 h4 h5 h6 h7
    cases h2
    cases e with
    | ret => exact ret _ ρ' h1 G' w' a' (.inr rfl) hend h3 h4 h5 h6 h7
    | exit id => unfold endFn at hend; rw [hp] at hend; cases hend
    | _ => trivial
  · intro v ρ' h1 h2
    cases h2
    unfold endFn at hend
    rw [hp] at hend
    cases hend

theorem aintKeys_spec : ∀ {es : List (AVal × AVal)} {ns : List Int}, aintKeys es = some ns → ns.length = es.length ∧
    ∀ (j : Nat) (kv : AVal × AVal), es[j]? = some kv → ∃ n m, ns[j]? = some n ∧ kv = (.int .i64 n, .int .i64 m) ∧ (Lit.int .i64 n).wf = true ∧ (Lit.int .i64 m).wf = true
  | [], ns, hb => by simp [aintKeys] at hb; subst hb; simp
  | kv :: r, ns, hb => by
    unfold aintKeys at hb
    split at hb
    · rename_i h0; cases h0
    · rename_i n m r' h0
      cases h0
      split at hb
      · rename_i hw
        obtain ⟨ns', h1, rfl⟩ := Option.map_eq_some_iff.1 hb
        obtain ⟨h2, h3⟩ := aintKeys_spec h1
        refine ⟨by simp [h2], fun j kv hkv => ?_⟩
        cases j with
        | zero => simp at hkv; subst hkv; exact ⟨n, m, rfl, rfl, hw⟩
        | succ j => simpa using h3 j kv (by simpa using hkv)
      · cases hb
    · cases hb

theorem sortC_sound {f : Nat} {args : List AVal} {r : Res} {h' : Heap} {X : Array Value} (hS : SortedOk P f) (hb : sortC args h = some (r, h')) (i : Inv G h w) (hx : RelVs G h args X) :
    (∀ w, (callFunc f X).run P w = .ok (.enter f X) w) ∧ Calls P f X w (CallPost G h w r h') := by
  refine ⟨fun w => hS.1 X w, ?_⟩
  unfold sortC at hb
  split at hb
  case h_2 => cases hb
  rename_i m
  obtain ⟨v, hv, hb⟩ := Option.map_eq_some_iff.1 hb
  cases hb
  unfold asortedKeys at hv
  split at hv
  case h_2 => cases hv
  rename_i id
  split at hv
  case h_2 => cases hv
  rename_i es hid
  split at hv
  case h_2 => cases hv
  rename_i ns hns
  split at hv
  case isFalse => cases hv
  rename_i hlen
  cases hv
  obtain ⟨h1, h2⟩ := aintKeys_spec hns
  obtain ⟨hX0, _⟩ := (hx.2 0 _ rfl).map_inv
  have hXe : X = #[.map (some (G.blk id))] := by
    obtain ⟨l⟩ := X
    match l, hx.1, hX0 with
    | [a], _, h0 => simp at h0; subst h0; rfl
  obtain ⟨E, clock, g1, g2, g3, g4, g5⟩ := i.blk id _ hid
  have hcells : ∀ (j : Nat) (x : MapEntry), E.toList[j]? = some x → ∃ n v, ns[j]? = some n ∧ x.key = .int .i64 n ∧ x.val = .int .i64 v ∧ (Lit.int .i64 n).wf = true ∧ (Lit.int .i64 v).wf = true := by
    intro j x hj
    have hlt : j < es.length := by rw [← g2, ← Array.length_toList]; exact (List.getElem?_eq_some_iff.1 hj).1
    obtain ⟨n, v, a1, a2, a3, a4⟩ := h2 j _ (List.getElem?_eq_getElem hlt)
    obtain ⟨mm, b1, b2, b3, b4⟩ := g4 j _ (List.getElem?_eq_getElem hlt)
    rw [Array.getElem?_toList] at hj
    rw [hj] at b1
    cases b1
    rw [a2] at b3 b4
    refine ⟨n, v, a1, ?_, b4.int_inv, a3, a4⟩
    generalize x.key = K at b3
    cases b3; rfl
  have hkeys : E.toList.map (·.key) = ns.map (Value.int .i64) := by
    apply List.ext_getElem?
    intro j
    rw [List.getElem?_map, List.getElem?_map]
    cases hj : E.toList[j]? with
    | none =>
      have : ns[j]? = none := List.getElem?_eq_none (by have := List.getElem?_eq_none_iff.1 hj; simp at this; omega)
      rw [this]; rfl
    | some x =>
      obtain ⟨n, v, a1, a2, _⟩ := hcells j x hj
      rw [a1]; simp [a2]
  rw [hXe]
  refine Calls.mono (hS.2 w (G.blk id) E clock ns g1 g5 hkeys (fun x hx => by
    obtain ⟨j, hj⟩ := List.getElem?_of_mem hx
    obtain ⟨n, v, _, _, a3, _, a5⟩ := hcells j x hj
    exact ⟨v, a3, a5⟩) (fun n hn => by
    obtain ⟨j, hj⟩ := List.getElem?_of_mem hn
    have hlt : j < es.length := by rw [← h1]; exact (List.getElem?_eq_some_iff.1 hj).1
    obtain ⟨n', v, a1, _, a3, _⟩ := h2 j _ (List.getElem?_eq_getElem hlt)
    rw [hj] at a1; cases a1; exact a3) hlen) fun e w' hpost => ?_
  obtain ⟨hbel, V, he, hV⟩ := hpost
  let G' : Gh := { G with H := fun b k => if b < w.heap.size then G.H b k else w'.cell? ⟨b, k, none⟩ }
  have hH : ∀ b k v, G.H b k = some v → G'.H b k = some v := fun b k v hv => by
    have := i.H_lt hv
    show (if b < w.heap.size then _ else _) = _
    rw [if_pos this]; exact hv
  have key := i.push (G' := G') (ext := []) (w' := w') hbel.os hbel.tape hbel.output hbel.size hbel.block (fun _ _ => rfl) (fun _ _ => rfl) hH (fun b k hb => if_pos hb)
    (fun b k v hb hv => by
      have hv : (if b < w.heap.size then G.H b k else w'.cell? ⟨b, k, none⟩) = some v := hv
      rwa [if_neg (by omega)] at hv)
    (fun j bl hj => by simp at hj) (fun j bl b hj => by simp at hj) (fun j j' bl bl' b hj => by simp at hj)
  rw [List.append_nil] at key
  refine ⟨G', key.2, key.1, V, he, .p _ _ ?_⟩
  rcases hV with ⟨rfl, a, cap, rfl⟩ | ⟨g, cap, rfl, hc, hg, hcell⟩
  · have e0 : (([] : List Int).mergeSort fun x y => decide (x ≤ y)) = [] := by simp
    rw [e0]; exact .slice0 a cap
  · have hml : (ns.mergeSort fun x y => decide (x ≤ y)).length = ns.length := List.length_mergeSort _
    have row : ∀ (i j : Nat) (row : List AVal) (v : AVal), ((ns.mergeSort fun x y => decide (x ≤ y)).map fun n => [AVal.int .i64 n])[i]? = some row → row[j]? = some v →
        ∃ n, (ns.mergeSort fun x y => decide (x ≤ y))[i * 1 + j]? = some n ∧ v = .int .i64 n := by
      intro i j row v hi hj
      rw [List.getElem?_map] at hi
      obtain ⟨n, hn, rfl⟩ := Option.map_eq_some_iff.1 hi
      cases j with
      | zero => simp at hj; subst hj; exact ⟨n, by simpa using hn, rfl⟩
      | succ j => simp at hj
    have := RelP.slice (H := G'.H) ((ns.mergeSort fun x y => decide (x ≤ y)).map fun n => [AVal.int .i64 n]) g 0 cap 1 (fun j => .int .i64 ((ns.mergeSort fun x y => decide (x ≤ y)).getD j 0)) (by simp) (by simp; omega)
      (fun i j r v hi hj => by
        obtain ⟨n, hn, rfl⟩ := row i j r v hi hj
        show (if g < w.heap.size then _ else _) = _
        rw [if_neg (by omega), Nat.zero_add, hcell _ _ hn, List.getD_eq_getElem?_getD, hn]; rfl)
      (fun i j r v hi hj => by obtain ⟨n, hn, rfl⟩ := row i j r v hi hj; rfl)
      (fun i j r v hi hj => by
        obtain ⟨n, hn, rfl⟩ := row i j r v hi hj
        rw [List.getD_eq_getElem?_getD, hn]; exact .int _ _)
    simpa [hml] using this

theorem aints_spec : ∀ {cs : List AVal} {xs : List Int}, aints cs = some xs → cs = xs.map (.int .i64)
  | [], xs, hb => by simp [aints] at hb; subst hb; rfl
  | v :: r, xs, hb => by
    unfold aints at hb
    split at hb
    · rename_i h0; cases h0
    · rename_i n r' h0
      cases h0
      obtain ⟨ys, h1, rfl⟩ := Option.map_eq_some_iff.1 hb
      rw [aints_spec h1]; rfl
    · cases hb
theorem func_rel {g' : Nat} {cp : List AVal} {F : Value} (hx : RelV G h (.func g' [] cp) F) : ∃ C, F = .func (.func g') #[] C ∧ cp.length = C.size ∧ ∀ (i : Nat) (v : AVal), cp[i]? = some v → RelV G h v (C.getD i undef) := by
  cases hx with
  | p _ _ hp => cases hp; exact ⟨#[], rfl, rfl, by simp⟩
  | func f first cap F C hlf hlc hf hc =>
    have : F = #[] := by
      obtain ⟨l⟩ := F; cases l with
      | nil => rfl
      | cons a l => simp at hlf
    subst this
    exact ⟨C, rfl, hlc, hc⟩
theorem lexLe_iff {key : Int → Int} {x y : Int} : lexLe key x y = true ↔ (key x < key y ∨ (key x = key y ∧ x ≤ y)) := by
  unfold lexLe; simp
theorem insL_perm {le : Int → Int → Bool} {x : Int} {l : List Int} : (insL le x l).Perm (x :: l) := by
  induction l with
  | nil => exact .refl _
  | cons y r ih =>
    unfold insL
    cases le x y with
    | true => exact .refl _
    | false => exact (List.Perm.cons y ih).trans (List.Perm.swap x y r)
theorem sortL_perm {le : Int → Int → Bool} {l : List Int} : (sortL le l).Perm l := by
  induction l with
  | nil => exact .refl _
  | cons x r ih => exact insL_perm.trans (List.Perm.cons x ih)
theorem insL_sorted {key : Int → Int} {x : Int} {l : List Int} (h : l.Pairwise fun a b => lexLe key a b = true) : (insL (lexLe key) x l).Pairwise fun a b => lexLe key a b = true := by
  induction l with
  | nil => simp [insL]
  | cons y r ih =>
    unfold insL
    rw [List.pairwise_cons] at h
    cases hxy : lexLe key x y with
    | true =>
      simp only [cond_true]
      rw [List.pairwise_cons]
      refine ⟨fun z hz => ?_, List.pairwise_cons.2 h⟩
      rcases List.mem_cons.1 hz with rfl | hz
      · exact hxy
      · have h1 := h.1 z hz
        rw [lexLe_iff] at *
        omega
    | false =>
      simp only [cond_false]
      rw [List.pairwise_cons]
      refine ⟨fun z hz => ?_, ih h.2⟩
      rcases List.mem_cons.1 (insL_perm.mem_iff.1 hz) with rfl | hz
      · have : ¬ lexLe key z y = true := by rw [hxy]; decide
        rw [lexLe_iff] at *
        omega
      · exact h.1 z hz
theorem sortL_sorted {key : Int → Int} {l : List Int} : (sortL (lexLe key) l).Pairwise fun a b => lexLe key a b = true := by
  induction l with
  | nil => exact .nil
  | cons x r ih => exact insL_sorted ih
theorem sortL_eq {key : Int → Int} {l : List Int} : sortL (lexLe key) l = l.mergeSort (lexLe key) := by
  have h2 : (l.mergeSort (lexLe key)).Pairwise fun a b => lexLe key a b = true := List.pairwise_mergeSort (fun a b c h1 h2 => by rw [lexLe_iff] at *; omega) (fun a b => by rw [Bool.or_eq_true, lexLe_iff, lexLe_iff]; omega) l
  exact List.Perm.eq_of_pairwise (fun a b _ _ h1 h2 => by rw [lexLe_iff] at *; omega) sortL_sorted h2 (sortL_perm.trans (List.mergeSort_perm _ _).symm)
theorem sortF_sound {f g : Nat} {args : List AVal} {r : Res} {h' : Heap} {X : Array Value} (hS : SortFnOk P f g) (hb : sortF g args h = some (r, h')) (i : Inv G h w) (hx : RelVs G h args X) :
    (∀ w, (callFunc f X).run P w = .ok (.enter f X) w) ∧ Calls P f X w (CallPost G h w r h') := by
  refine ⟨fun w => hS.1 X w, ?_⟩
  unfold sortF at hb
  split at hb
  case h_3 => cases hb
  · rename_i tok g' cp
    split at hb
    case isFalse => cases hb
    rename_i hg
    subst hg
    cases hb
    obtain ⟨C, hF, _⟩ := func_rel (hx.2 1 _ rfl)
    obtain ⟨a, cap, hA⟩ : ∃ a cap, X.getD 0 undef = .slice a 0 cap := by
      have := (hx.2 0 _ rfl).slice_inv
      generalize X.getD 0 undef = V0 at this
      cases this with
      | slice0 a cap => exact ⟨a, cap, rfl⟩
      | slice rows b off cap sz V _ _ _ _ _ => exact ⟨_, cap, rfl⟩
    have hXe : X = #[.slice a 0 cap, .func (.func g') #[] C] := by
      obtain ⟨l⟩ := X
      match l, hx.1, hA, hF with
      | [x, y], _, h0, h1 => simp at h0 h1; subst h0; subst h1; rfl
    rw [hXe]
    refine Calls.mono (hS.2.1 a cap #[] C w) fun e w' hp => ?_
    obtain ⟨rfl, rfl⟩ := hp
    exact ⟨G, Ext.refl G _ _, i, _, rfl, .p _ _ (.tuple [] #[] rfl (by simp))⟩
  · rename_i id tot n g' pid po
    split at hb
    case h_2 => cases hb
    rename_i x cs hgv hpc
    split at hb
    case h_2 => cases hb
    rename_i rows tok xs hcs hxs
    split at hb
    case isFalse => cases hb
    rename_i hcond
    obtain ⟨rfl, hne, hx1, hn0, hnl, hnm, hrows, hkeys⟩ := hcond
    cases hb
    have hid := getVec_some hgv
    rw [hx1] at hid
    obtain ⟨Cf, hF, hFl, hFc⟩ := func_rel (hx.2 1 _ rfl)
    obtain ⟨b, cap, hA, hnf, htot, hlc, hv⟩ := (hx.2 0 _ rfl).vslice_inv
    obtain ⟨b', cap', C, e0, g1, g2, g3, g4, g5, g6, g7, g8, g9⟩ := i.blk id _ hid
    obtain ⟨l0, cap0, k1, k2, k3, k4⟩ := hv (by rw [g1]; rfl)
    have hcur := g1
    rw [g1] at k1
    simp only [Value.slice.injEq, Option.some.injEq, Addr.mk.injEq] at k1
    obtain ⟨⟨rfl, _⟩, _, rfl⟩ := k1
    have hP := (hFc 0 _ rfl).ptr_inv
    obtain ⟨Cp, ep, p1, p2, p3, p4⟩ := i.blk pid _ hpc
    have hXe : X = #[.slice (some ⟨b', 0, none⟩) n cap, .func (.func g') #[] #[.pointer (some ⟨G.blk pid, po, none⟩)]] := by
      have hCf : Cf = #[.pointer (some ⟨G.blk pid, po, none⟩)] := by
        obtain ⟨l⟩ := Cf
        match l, hFl, hP with
        | [x], _, h0 => simp at h0; rw [h0.1]
      subst hCf
      obtain ⟨l⟩ := X
      match l, hx.1, hA, hF with
      | [x, y], _, h0, h1 => simp at h0 h1; subst h0; subst h1; rfl
    have hxl : xs.length = n := by
      have := congrArg List.length (aints_spec hxs)
      simp at this; omega
    have hcell : ∀ (j : Nat) (m : Int), xs[j]? = some m → x.2[j]? = some (.int .i64 m) := by
      intro j m hj
      have h1 : (x.2.take n)[j]? = some (.int .i64 m) := by rw [aints_spec hxs, List.getElem?_map, hj]; rfl
      rw [List.getElem?_take] at h1
      split at h1
      · exact h1
      · cases h1
    have hne0 : xs ≠ [] := by intro h0; rw [h0] at hxl; simp at hxl; omega
    have hkey : ∀ y ∈ xs, 0 ≤ y ∧ ∃ row, rows[y.toNat]? = some row ∧ row[0]? = some (.int .i64 ((rowKey rows y).getD 0)) := by
      intro y hy
      have := List.all_eq_true.1 hkeys y hy
      unfold rowKey at this ⊢
      split at this
      · rename_i h0
        rw [if_pos h0]
        split at this
        · rename_i a r hr
          exact ⟨h0, _, hr, rfl⟩
        · cases this
      · cases this
    have hsl := (p4 po _ hcs).2.slice_inv
    -- the rows' place
    obtain ⟨sb, so, cp, hVc, hrow⟩ : ∃ sb so cp, Cp.getD po undef = .slice (some ⟨sb, so, none⟩) rows.length cp ∧ ∀ (y : Nat) (row : List AVal) (v : Int), rows[y]? = some row → row[0]? = some (.int .i64 v) → G.H sb (so + y * 2) = some (.int .i64 v) := by
      generalize hCv : Cp.getD po undef = Vc at hsl
      cases hsl with
      | slice0 a cap =>
        exfalso
        obtain ⟨y, hy⟩ := List.exists_mem_of_ne_nil _ hne0
        obtain ⟨_, row, h1, _⟩ := hkey y hy
        simp at h1
      | slice _ sb so cp sz V hr hc hH hk hV =>
        refine ⟨sb, so, cp, rfl, fun y row v h1 h2 => ?_⟩
        have hrl := hr row (List.mem_of_getElem? h1)
        have hr2 : row.length = 2 := by have := List.all_eq_true.1 hrows row (List.mem_of_getElem? h1); simpa using this
        have h3 := hH y 0 row _ h1 h2
        have h4 := hV y 0 row _ h1 h2
        have h5 : sz = 2 := by omega
        subst h5
        rw [Nat.add_zero] at h3 h4
        generalize V (y * 2) = Vy at h3 h4
        cases h4
        exact h3
    have hpb : G.blk pid ≠ b' := by
      intro he
      refine hne (i.inj pid id b' ?_ ?_)
      · unfold owner; rw [hpc, he]
      · unfold owner; rw [hid]; show (G.cur id).ownBlock = _; rw [hcur]; rfl
    have hsb : sb ≠ b' := by
      intro he
      obtain ⟨y, hy⟩ := List.exists_mem_of_ne_nil _ hne0
      obtain ⟨_, row, h1, h2⟩ := hkey y hy
      have := hrow _ row _ h1 h2
      rw [he, g8] at this; cases this
    have hpcell : w.cell? ⟨G.blk pid, po, none⟩ = some (.slice (some ⟨sb, so, none⟩) rows.length cp) := by
      rw [← hVc]
      have hpl : po < Cp.size := by have := (List.getElem?_eq_some_iff.1 hcs).1; omega
      rw [cell_of w _ po p1, Array.getD_eq_getD_getElem?, Array.getElem?_eq_getElem hpl]; rfl
    have hlen1 : x.2.length = tot := by simpa using g7
    rw [hXe]
    have hS2 := hS.2.2 w b' cap C e0 xs (G.blk pid) po sb so rows.length cp (fun y => (rowKey rows y).getD 0) g2 hne0 (by omega)
      (fun j m hj => by
        have h1 := (g9 j _ (hcell j m hj)).2.int_inv
        have hjl : j < C.size := by have := (List.getElem?_eq_some_iff.1 (hcell j m hj)).1; omega
        rw [Array.getD_eq_getD_getElem?, Array.getElem?_eq_getElem hjl] at h1
        rw [Array.getElem?_eq_getElem hjl]
        simpa using h1)
      hpcell hpb hsb (fun y hy => by
        obtain ⟨h0, row, h1, h2⟩ := hkey y hy
        exact ⟨h0, (List.getElem?_eq_some_iff.1 h1).1, i.ok _ _ _ (hrow _ row _ h1 h2)⟩)
    rw [hxl] at hS2
    refine Calls.mono hS2 fun e w' hp => ?_
    obtain ⟨rfl, q1, q2, q3, os, q4⟩ := hp
    rw [sortL_eq]
    generalize hzs : xs.mergeSort (lexLe fun y => (rowKey rows y).getD 0) = zs at *
    have hzl : zs.length = n := by rw [← hzs, List.length_mergeSort, hxl]
    have hw := i.writeV (off := 0) (vs := zs.map (.int .i64)) (U := zs.map (Value.int .i64)) hid hcur g2 (by simp; omega) (by simp) (fun j u hu => by
      rw [List.getElem?_map] at hu
      obtain ⟨m, hm, rfl⟩ := Option.map_eq_some_iff.1 hu
      refine ⟨rfl, ?_⟩
      rw [List.getD_eq_getElem?_getD, List.getElem?_map, hm]
      exact .p _ _ (.int _ _))
    have hrw : (C.toList.take 0 ++ zs.map (Value.int .i64) ++ C.toList.drop (0 + (zs.map (Value.int .i64)).length)).toArray = (zs.map (Value.int .i64) ++ C.toList.drop n).toArray := by simp [hzl]
    rw [hrw] at hw
    generalize hw1 : w.setRow b' (zs.map (Value.int .i64) ++ C.toList.drop n).toArray = w1 at *
    have e1 : w1.os = w.os := by rw [← hw1]; rfl
    have e2 : w1.tape = w.tape := by rw [← hw1]; rfl
    have e3 : w1.output = w.output := by rw [← hw1]; rfl
    have key := hw.1.push (G' := G) (ext := []) (w' := w') (q1.trans e1.symm) (q2.trans e2.symm) (q3.trans e3.symm) (by rw [q4]; simp) (fun k hk => by rw [q4]; exact Array.getElem?_append_left hk) (fun _ _ => rfl) (fun _ _ => rfl) (fun _ _ _ h => h) (fun _ _ _ => rfl)
      (fun b k v hb hv => by have := hw.1.H_lt (b := b) (k := k) (v := v) hv; omega)
      (fun j bl hj => by simp at hj) (fun j bl b hj => by simp at hj) (fun j j' bl bl' b hj => by simp at hj)
    rw [List.append_nil] at key
    exact ⟨G, hw.2.trans key.2, key.1, _, rfl, .p _ _ (.tuple [] #[] rfl (by simp))⟩

theorem getC_spec (i : Inv G h w) {id : Nat} {cs : List AVal} (hg : getC h id = some cs) : ∃ C e, w.heap[G.blk id]? = some (.cells C e (0, 0)) ∧ C.size = cs.length ∧
    ∀ (j : Nat) (v : AVal), cs[j]? = some v → v.cellOk = true ∧ RelV G h v (C.getD j undef) := by
  unfold getC at hg
  split at hg
  · rename_i cs' hid
    cases hg
    obtain ⟨C, e, h1, h2, h3, h4⟩ := i.blk id _ hid
    exact ⟨C, e, h1, h2, h4⟩
  · rename_i t cs' hid
    cases hg
    obtain ⟨C, h1, h2, h3, h4⟩ := i.blk id _ hid
    exact ⟨C, t, h1, h2, h4⟩
  · cases hg
theorem rowBytes_spec : ∀ {rows : List (List AVal)} {bs : List UInt8}, rowBytes rows = some bs → rows = bs.map fun b => [AVal.int .u8 (b.toNat : Int)]
  | [], bs, hb => by simp [rowBytes] at hb; subst hb; rfl
  | row :: r, bs, hb => by
    unfold rowBytes at hb
    split at hb
    · rename_i he; cases he
    · rename_i n r' he
      simp only [List.cons.injEq] at he
      obtain ⟨rfl, rfl⟩ := he
      split at hb
      case isFalse => cases hb
      rename_i hn
      cases hr : rowBytes r with
      | none => rw [hr] at hb; cases hb
      | some bs' =>
        rw [hr] at hb
        cases hb
        rw [rowBytes_spec hr, List.map_cons]
        have : ((UInt8.ofNat n.toNat).toNat : Int) = n := by
          rw [UInt8.toNat_ofNat_of_lt' (by show n.toNat < 256; omega)]; omega
        rw [this]
    · cases hb
theorem cell_freeze (w : World) (g n : Nat) (a : Addr) : (w.freeze ⟨g, 0, none⟩ n).cell? a = w.cell? a := by
  unfold World.freeze
  split
  · rfl
  · unfold World.cell?
    simp only [Array.getElem?_modify]
    by_cases e : g = a.block
    · rw [if_pos e]
      cases w.heap[a.block]? with
      | none => rfl
      | some o => cases o <;> rfl
    · rw [if_neg e]
theorem bldS_sound {f e : Nat} {s : AVal} {V : Value} {r : Res} {h' : Heap} {b off : Nat}
    (p2 : ∀ (w : World) (b off : Nat), w.cell? ⟨b, off + 1, none⟩ = some (.slice none 0 0) → Calls P f #[.pointer (some ⟨b, off, none⟩)] w fun ev w' => ev = .returned (.string ⟨#[]⟩) ∧ ∃ d, w' = { w with drawn := d })
    (p3 : ∀ (w : World) (b off g cap : Nat) (C : Array Value) (l : List UInt8), w.cell? ⟨b, off + 1, none⟩ = some (.slice (some ⟨g, 0, none⟩) l.length cap) → w.heap[g]? = some (.cells C e (0, 0)) → l ≠ [] → l.length ≤ cap → cap ≤ maxLen → C.size = cap →
      (∀ (j : Nat) x, l[j]? = some x → C[j]? = some (.int .u8 (x.toNat : Int))) → Calls P f #[.pointer (some ⟨b, off, none⟩)] w fun ev w' => ev = .returned (.string ⟨l.toArray⟩) ∧ ∃ d, w' = World.freeze { w with drawn := d } ⟨g, 0, none⟩ l.length)
    (i : Inv G h w) (hcell : w.cell? ⟨b, off + 1, none⟩ = some V) (hrs : RelV G h s V) (hb : bldS e h s = some (r, h')) : Calls P f #[.pointer (some ⟨b, off, none⟩)] w (CallPost G h w r h') := by
  have nilc : V = .slice none 0 0 → r = .ret (.str []) → h' = h → Calls P f #[.pointer (some ⟨b, off, none⟩)] w (CallPost G h w r h') := by
    rintro rfl rfl rfl
    refine Calls.mono (p2 w b off hcell) fun ev w' hp => ?_
    obtain ⟨rfl, d, rfl⟩ := hp
    exact ⟨G, Ext.drawn G _ _ d, i.drawn d, _, rfl, .p _ _ (.str [])⟩
  unfold bldS at hb
  split at hb
  · simp only [Option.some.injEq, Prod.mk.injEq] at hb
    exact nilc hrs.nil_inv hb.1.symm hb.2.symm
  · rename_i rows fid
    split at hb
    · rename_i n sz t hid
      cases hl : rows.length == n with
      | false => rw [hl] at hb; cases hb
      | true =>
        rw [hl] at hb
        simp only [cond_true] at hb
        have hlen : rows.length = n := by simpa using hl
        obtain ⟨hV, hrl, hcur⟩ := own_cells i hrs hid hlen
        cases n with
        | zero =>
          simp only at hb
          cases hz : sz == 0 with
          | false => rw [hz] at hb; cases hb
          | true =>
            rw [hz] at hb
            simp only [cond_true, Option.some.injEq, Prod.mk.injEq] at hb
            have hz : sz = 0 := by simpa using hz
            rcases hcur with ⟨_, hc⟩ | ⟨_, _, _, _, _, _, _, _, _, hs0, _⟩
            · exact nilc (hV.trans hc) hb.1.symm hb.2.symm
            · omega
        | succ m =>
          simp only at hb
          cases hz : sz == 1 && t == e + 1 with
          | false => rw [hz] at hb; cases hb
          | true =>
            rw [hz] at hb
            simp only [cond_true] at hb
            simp only [Bool.and_eq_true, beq_iff_eq] at hz
            obtain ⟨rfl, rfl⟩ := hz
            split at hb
            case h_2 => cases hb
            rename_i bs hbs
            simp only [Option.some.injEq, Prod.mk.injEq] at hb
            obtain ⟨rfl, rfl⟩ := hb
            have hrows := rowBytes_spec hbs
            have hbl : bs.length = m + 1 := by rw [← hlen, hrows, List.length_map]
            rcases hcur with ⟨h0, _⟩ | ⟨g, cap, C, e0, hc, hC, hle, hmx, hCs, hs0, hHn, hcells, hte⟩
            · omega
            · obtain rfl : e0 = e := Nat.succ.inj (hte (Nat.succ_ne_zero e))
              have hq := p3 w b off g cap C bs (by rw [hcell, hV, hc, hbl]) hC (by rintro rfl; simp at hbl) (by omega) hmx (by omega) (fun j x hx => by
                obtain ⟨u, e1, e2, _⟩ := hcells j 0 [.int .u8 (x.toNat : Int)] (.int .u8 (x.toNat : Int)) (by rw [hrows, List.getElem?_map, hx]; rfl) rfl
                rw [List.getElem?_take] at e1
                split at e1
                · rw [Array.getElem?_toList] at e1
                  have h2 := (RelV.p (G := G) (h := h) _ _ e2).int_inv
                  rw [h2] at e1
                  simpa using e1
                · cases e1)
              refine Calls.mono hq fun ev w' hp => ?_
              obtain ⟨rfl, d, rfl⟩ := hp
              have hown : ownerB G fid (.front (m + 1) 1 (e0 + 1)) = some g := by simp [ownerB, hc, Value.ownBlock]
              have key := i.step (G' := G) (w' := World.freeze { w with drawn := d } ⟨g, 0, none⟩ bs.length) fid _ .gone hid (by unfold World.freeze; split <;> rfl) (by unfold World.freeze; split <;> rfl) (by unfold World.freeze; split <;> rfl)
                (by unfold World.freeze; split <;> simp) (fun k hk hne => by
                  have : g ≠ k := by rintro rfl; exact hne hown
                  unfold World.freeze
                  split
                  · rfl
                  · simp only [Array.getElem?_modify]
                    rw [if_neg this])
                (fun _ _ => rfl) (fun _ _ => rfl) (fun _ _ _ h => h) (fun _ _ _ _ => rfl) (fun b k v _ hv => by rw [cell_freeze]; exact i.ok b k v hv)
                rfl (fun _ => trivial) (fun b hb => by cases hb)
              exact ⟨G, key.2, key.1, _, rfl, .p _ _ (.str bs)⟩
    · cases hb
  · cases hb

/-- A function that is run by its contract. -/
theorem primC_sound {f : Nat} {k : PrmK} {args : List AVal} {r : Res} {h' : Heap} {X : Array Value} (hP : PrmOk P A f k) (hb : primC A.bld k args h = some (r, h')) (i : Inv G h w) (gl : GlobOk A G h w) (hx : RelVs G h args X) :
    (∀ w, (callFunc f X).run P w = .ok (.enter f X) w) ∧ Calls P f X w (CallPost G h w r h') := by
  cases k with
  | fn g =>
    obtain ⟨p1, p2⟩ := hP
    refine ⟨fun w => p1 X w, ?_⟩
    simp only [primC] at hb
    obtain ⟨v, hv, hb⟩ := Option.map_eq_some_iff.1 hb
    cases hb
    refine Calls.mono (p2 G h w args X v i gl hx.1 hx.2 hv) fun e w' hp => ?_
    obtain ⟨⟨V, rfl, hV⟩, q1, q2, q3, os, q4⟩ := hp
    have key := i.push (G' := G) (ext := []) (w' := w') q1 q2 q3 (by rw [q4]; simp) (fun k hk => by rw [q4]; exact Array.getElem?_append_left hk) (fun _ _ => rfl) (fun _ _ => rfl) (fun _ _ _ h => h) (fun _ _ _ => rfl)
      (fun b k v hb hv => by have := i.H_lt (b := b) (k := k) (v := v) hv; omega)
      (fun j bl hj => by simp at hj) (fun j bl b hj => by simp at hj) (fun j j' bl bl' b hj => by simp at hj)
    rw [List.append_nil] at key
    exact ⟨G, key.2, key.1, V, rfl, .p _ _ hV⟩
  | bldString e =>
    obtain ⟨p1, p2, p3⟩ := hP
    refine ⟨fun w => p1 X w, ?_⟩
    simp only [primC] at hb
    split at hb
    case h_2 => cases hb
    rename_i id off
    split at hb
    case h_2 => cases hb
    rename_i cs hg
    split at hb
    case h_2 => cases hb
    rename_i s hs
    obtain ⟨C, e0, g1, g2, g4⟩ := getC_spec i hg
    obtain ⟨hX0, hlv⟩ := (hx.2 0 _ rfl).ptr_inv
    have hXe : X = #[.pointer (some ⟨G.blk id, off, none⟩)] := by
      obtain ⟨l⟩ := X
      match l, hx.1, hX0 with
      | [a], _, h0 => simp at h0; subst h0; rfl
    have hlt : off + 1 < C.size := by have := (List.getElem?_eq_some_iff.1 hs).1; omega
    have hrs := (g4 _ s hs).2
    have hcell : w.cell? ⟨G.blk id, off + 1, none⟩ = some (C.getD (off + 1) undef) := by
      rw [cell_of w _ _ g1, Array.getD_eq_getD_getElem?, Array.getElem?_eq_getElem hlt]; rfl
    rw [hXe]
    exact bldS_sound p2 p3 i hcell hrs hb
  | copyCheck =>
    obtain ⟨p1, p2⟩ := hP
    refine ⟨fun w => p1 X w, ?_⟩
    simp only [primC] at hb
    split at hb
    case h_2 => cases hb
    rename_i id off
    split at hb
    case h_2 => cases hb
    rename_i x hg
    have hid := getT_some hg
    cases hbl : A.bld x.1 off x.2.length with
    | false => rw [hbl] at hb; cases hb
    | true =>
      rw [hbl] at hb
      simp only [cond_true] at hb
      obtain ⟨C, g1, g2, g3, g4⟩ := i.blk id _ hid
      obtain ⟨hX0, hlv⟩ := (hx.2 0 _ rfl).ptr_inv
      have hXe : X = #[.pointer (some ⟨G.blk id, off, none⟩)] := by
        obtain ⟨l⟩ := X
        match l, hx.1, hX0 with
        | [a], _, h0 => simp at h0; subst h0; rfl
      have main : ∀ c, x.2[off]? = some c → (∀ V, RelV G h c V → V = .pointer none ∨ V = .pointer (some ⟨G.blk id, off, none⟩)) → r = .ret (.tuple []) → h' = h.set id (.tcells x.1 (putCells x.2 off [.ptr id off])) → Calls P f X w (CallPost G h w r h') := by
        intro c hc hcv hr hh
        subst hr hh
        have hlt : off < x.2.length := (List.getElem?_eq_some_iff.1 hc).1
        have hlt' : off < C.size := by omega
        have hCv := hcv _ (g4 off c hc).2
        rw [Array.getD_eq_getD_getElem?, Array.getElem?_eq_getElem hlt', Option.getD_some] at hCv
        rw [hXe]
        refine Calls.mono (p2 w (G.blk id) off x.1 C (by rw [g2]; exact hbl) g1 hlt' (by rw [Array.getElem?_eq_getElem hlt']; rcases hCv with e | e <;> simp [e])) fun e w' hp => ?_
        obtain ⟨rfl, rfl⟩ := hp
        have hw := i.writeT (off := off) (vs := [.ptr id off]) (U := [.pointer (some ⟨G.blk id, off, none⟩)]) hid g1 (by simp; omega) rfl (fun j u hu => by
          cases j with
          | zero => simp at hu; subst hu; exact ⟨rfl, .ptr id off hlv⟩
          | succ j => simp at hu)
        exact ⟨G, hw.2, hw.1, _, rfl, .p _ _ (.tuple [] #[] rfl (by simp))⟩
      split at hb
      · rename_i hc
        simp only [Option.some.injEq, Prod.mk.injEq] at hb
        refine main _ hc (fun V hV => .inl ?_) hb.1.symm hb.2.symm
        cases hV with | p _ _ hp => cases hp; rfl
      · rename_i id' off' hc
        split at hb
        · rename_i he
          obtain ⟨rfl, rfl⟩ := he
          simp only [Option.some.injEq, Prod.mk.injEq] at hb
          refine main _ hc (fun V hV => .inr ?_) hb.1.symm hb.2.symm
          exact hV.ptr_inv.1
        · cases hb
      · cases hb

theorem evB_sound (hm : P.follows .mixedOrders = true) (hX : ExtOk P A) (hK : SoundK P A (callP A K)) (hlp : LpOk lp) : SoundK P A (evB P A lp K) := by
  intro f args h r h' hb G w X i gl hx
  unfold evB at hb
  cases hs : A.srt f with
  | true =>
    rw [hs] at hb
    exact sortC_sound (hX.1 f hs) hb i hx
  | false =>
  rw [hs] at hb
  simp only [cond_false] at hb
  cases hpr : A.prm f with
  | some k =>
    simp only [hpr] at hb
    exact primC_sound (hX.2.2.2.1 f k hpr) hb i gl hx
  | none =>
  simp only [hpr] at hb
  cases hsf : A.srf f with
  | some g =>
    simp only [hsf] at hb
    exact sortF_sound (hX.2.2.1 f g hsf) hb i hx
  | none =>
  simp only [hsf] at hb
  cases hf : P.funcs[f]? with
  | none => rw [hf] at hb; cases hb
  | some fn =>
    simp only [hf] at hb
    cases hc : fn.body with
    | none => rw [hc] at hb; cases hb
    | some c =>
      simp only [hc] at hb
      cases hg : decide (args.length ≤ fn.ntmps) && !(fn.name == "runtime.NumGoroutine") with
      | false => rw [hg] at hb; cases hb
      | true =>
        rw [hg] at hb
        simp only [Bool.and_eq_true, decide_eq_true_eq, Bool.not_eq_true'] at hg
        have key : Calls P f X w (CallPost G h w r h') := by
          cases hr : A.rgf f with
          | true => rw [hr] at hb; exact evalFnG_sound hm hX hK hlp hf hc hb i gl hx hg.1
          | false => rw [hr] at hb; exact evalFn_sound hm hX hK hlp hf hc hb i gl hx hg.1
        refine ⟨fun w => ?_, key⟩
        have hne : ¬ fn.name = "runtime.NumGoroutine" := by simpa using hg.2
        simp [callFunc, Sem.run_bind, hf, hc, hne, Sem.run_pure]

/-- An empty heap: nothing is owned. -/
theorem Inv.empty (i : Inv G h w) : Inv G [] w := ⟨i.ok, fun id bl hb => by simp at hb, fun a b c ha => by simp [owner] at ha⟩

theorem pureBack_sound {out : Bool} {r1 r : Res} {h1 h' : Heap} {e : Ending} {w' : World} (hb : pureBack out h (r1, h1) = some (r, h')) (i : Inv G h w) (hpost : CallPost G [] w r1 h1 e w') : CallPost G h w r h' e w' := by
  obtain ⟨G', x, i', hpost⟩ := hpost
  -- the caller's blocks are as they were
  have fr : ∀ b, b < w.heap.size → w'.heap[b]? = w.heap[b]? ∧ ∀ k, G'.H b k = G.H b k := fun b hb => x.frame b hb fun id => by simp [owner]
  have new : ∀ {j b : Nat}, owner G' h1 j = some b → ¬ b < w.heap.size := fun ho hlt => by
    have := x.own _ _ ho hlt
    simp [owner] at this
  have hcase : (h1 = [] ∧ r = r1 ∧ h' = h) ∨ (h1.all (ABlk.ok fun j => decide (j < h1.length)) = true ∧ r1.ok (fun j => decide (j < h1.length)) = true ∧ r = r1.ren (fun j => h.length + j) ∧ h' = h ++ h1.map (ABlk.ren fun j => h.length + j)) := by
    unfold pureBack at hb
    cases h1 with
    | nil => cases hb; exact .inl ⟨rfl, rfl, rfl⟩
    | cons b t =>
      simp only at hb
      cases hc : out && ((b :: t).all (ABlk.ok fun j => decide (j < (b :: t).length)) && r1.ok fun j => decide (j < (b :: t).length)) with
      | false => rw [hc] at hb; cases hb
      | true =>
        rw [hc] at hb
        simp only [Bool.and_eq_true] at hc
        cases hb
        exact .inr ⟨hc.2.1, hc.2.2, rfl, rfl⟩
  rcases hcase with ⟨rfl, rfl, rfl⟩ | ⟨hbok, hrok, rfl, rfl⟩
  · let G2 : Gh := { G' with blk := G.blk, cur := G.cur }
    have mono : Mono G h' G2 h' := ⟨x.hmono, fun id bl hb => ⟨bl, hb, by cases bl <;> simp [Kind, G2]⟩⟩
    have key : ∀ {v : AVal} {V : Value}, RelV G' [] v V → RelV G2 h' v V := by
      intro v V r
      have nl : ∀ id, ¬ live ([] : Heap) id := fun id ⟨b, hb, _⟩ => by simp at hb
      induction r with
      | p v V hp => exact .p v V hp
      | agg cs C hl _ ih => exact .agg cs C hl ih
      | tuple cs C hl _ ih => exact .tuple cs C hl ih
      | nil => exact .nil
      | own rows id n sz V hp hf => simp at hf
      | ownv id V hp hb => obtain ⟨b, hb, _⟩ := hb; simp at hb
      | vslice id tot off len sz b cap hb => obtain ⟨b, hb, _⟩ := hb; simp at hb
      | vptr id tot off b hb => obtain ⟨b, hb, _⟩ := hb; simp at hb
      | ptr id off hl => exact absurd hl (nl id)
      | mslice id off len sz cap hl => exact absurd hl (nl id)
      | mslice0 id off sz cap a => exact .mslice0 id off sz cap a
      | map id hl => exact absurd hl (nl id)
      | func f first cap F C hlf hlc _ _ ih1 ih2 => exact .func f first cap F C hlf hlc ih1 ih2
      | iface t v V _ ih => exact .iface t v V ih
    refine ⟨G2, ⟨x.os, x.tape, x.output, x.size, fun b hb _ => fr b hb, x.hmono, fun id b ho _ => ho, mono.kinds⟩, ⟨i'.ok, fun id bl hb => ?_, fun a b c ha hb => i.inj a b c ha hb⟩, ?_⟩
    · refine (i.blk id bl hb).keep mono rfl rfl fun b ho => ?_
      exact fr b ((i.blk id bl hb).lt ho)
    · cases r with
      | ret v => obtain ⟨V, he, hV⟩ := hpost; exact ⟨V, he, key hV⟩
      | pan v => obtain ⟨V, he, hV⟩ := hpost; exact ⟨V, he, key hV⟩
  · simp only [List.all_eq_true] at hbok
    let G2 : Gh := { H := G'.H, blk := fun id => if id < h.length then G.blk id else G'.blk (id - h.length), cur := fun id => if id < h.length then G.cur id else G'.cur (id - h.length) }
    let sh : Nat → Nat := fun j => h.length + j
    have b1 : ∀ {id : Nat}, id < h.length → G2.blk id = G.blk id := fun hl => if_pos hl
    have c1 : ∀ {id : Nat}, id < h.length → G2.cur id = G.cur id := fun hl => if_pos hl
    have b2 : ∀ {j : Nat}, G2.blk (sh j) = G'.blk j := fun {j} => by
      show (if _ then _ else _) = _
      rw [if_neg (by show ¬ h.length + j < h.length; omega)]; congr 1; show h.length + j - h.length = j; omega
    have c2 : ∀ {j : Nat}, G2.cur (sh j) = G'.cur j := fun {j} => by
      show (if _ then _ else _) = _
      rw [if_neg (by show ¬ h.length + j < h.length; omega)]; congr 1; show h.length + j - h.length = j; omega
    let hN : Heap := h ++ h1.map (ABlk.ren sh)
    have g1 : ∀ {id : Nat}, id < h.length → hN[id]? = h[id]? := fun hl => List.getElem?_append_left hl
    have g2 : ∀ {j : Nat}, hN[sh j]? = (h1[j]?).map (ABlk.ren sh) := fun {j} => by
      show (h ++ _)[h.length + j]? = _
      rw [List.getElem?_append_right (by omega), Nat.add_sub_cancel_left, List.getElem?_map]
    have m2 : RenOk G' h1 G2 hN sh (fun j => decide (j < h1.length)) := ⟨fun _ _ _ h => h, fun j b _ hb => ⟨_, by rw [g2, hb]; rfl, sameShape_ren b⟩, fun _ _ => b2, fun _ _ => c2⟩
    have own2 : ∀ {id b : Nat}, owner G2 hN id = some b → (id < h.length ∧ owner G h id = some b) ∨ (∃ j, id = sh j ∧ owner G' h1 j = some b) := by
      intro id b ho
      obtain ⟨bl, hbl, ho2⟩ := owner_some ho
      by_cases hl : id < h.length
      · refine .inl ⟨hl, ?_⟩
        rw [g1 hl] at hbl
        rw [owner_eq hbl, ← ho2]
        cases bl <;> simp [ownerB, b1 hl, c1 hl]
      · have e : id = sh (id - h.length) := by show id = h.length + (id - h.length); omega
        refine .inr ⟨id - h.length, e, ?_⟩
        rw [e, g2] at hbl
        obtain ⟨b0, hb0, rfl⟩ := Option.map_eq_some_iff.1 hbl
        have e3 := ownerB_ren (G := G') (G2 := G2) (f := sh) (id := id - h.length) (j := sh (id - h.length)) (b := b0) b2 c2
        rw [← e] at e3
        rw [owner_eq hb0, ← e3]
        exact ho2
    have kinds : ∀ id bl, h[id]? = some bl → ∃ bl', hN[id]? = some bl' ∧ Kind G G2 id bl bl' := by
      intro id bl hbl
      have hl := (List.getElem?_eq_some_iff.1 hbl).1
      refine ⟨bl, by rw [g1 hl]; exact hbl, ?_⟩
      cases bl <;> simp [Kind, b1 hl, c1 hl]
    have ext : Ext G h w G2 hN w' := ⟨x.os, x.tape, x.output, x.size, fun b hb _ => fr b hb, x.hmono, fun id b ho hlt => by
      rcases own2 ho with ⟨_, h2⟩ | ⟨j, _, h2⟩
      · exact h2
      · exact absurd hlt (new h2), kinds⟩
    refine ⟨G2, ext, ⟨i'.ok, fun id bl hbl => ?_, fun a c b ha hc => ?_⟩, ?_⟩
    · have hbl : hN[id]? = some bl := hbl
      by_cases hl : id < h.length
      · rw [g1 hl] at hbl
        exact (i.blk id bl hbl).keep ext.toMono (b1 hl) (c1 hl) fun b ho => fr b ((i.blk id bl hbl).lt ho)
      · have e : id = sh (id - h.length) := by show id = h.length + (id - h.length); omega
        rw [e, g2] at hbl
        obtain ⟨b0, hb0, rfl⟩ := Option.map_eq_some_iff.1 hbl
        rw [e]
        exact (i'.blk _ b0 hb0).ren m2 rfl b2 c2 (hbok b0 (List.mem_of_getElem? hb0))
    · rcases own2 ha with ⟨hla, h2⟩ | ⟨ja, rfl, h2⟩
      · rcases own2 hc with ⟨hlc, h3⟩ | ⟨jc, rfl, h3⟩
        · exact i.inj a c b h2 h3
        · obtain ⟨bl, hbl, hob⟩ := owner_some h2
          exact absurd ((i.blk a bl hbl).lt hob) (new h3)
      · rcases own2 hc with ⟨hlc, h3⟩ | ⟨jc, rfl, h3⟩
        · obtain ⟨bl, hbl, hob⟩ := owner_some h3
          exact absurd ((i.blk c bl hbl).lt hob) (new h2)
        · rw [i'.inj ja jc b h2 h3]
    · cases r1 with
      | ret v => obtain ⟨V, he, hV⟩ := hpost; exact ⟨V, he, ren_rel m2 hV hrok⟩
      | pan v => obtain ⟨V, he, hV⟩ := hpost; exact ⟨V, he, ren_rel m2 hV hrok⟩

theorem callP_sound (hK : SoundK P A K) : SoundK P A (callP A K) := by
  intro f args h r h' hb G w X i gl hx
  unfold callP at hb
  cases hp : A.pure f with
  | false =>
    rw [hp] at hb
    cases hsb : A.sub f with
    | false => rw [hsb] at hb; exact hK f args h r h' hb G w X i gl hx
    | true => rw [hsb] at hb; exact subI_sound hK hb i gl hx
  | true =>
    rw [hp] at hb
    simp only [cond_true] at hb
    cases hs : args.all (AVal.shut1 0) with
    | false => rw [hs] at hb; cases hb
    | true =>
      rw [hs] at hb
      simp only [cond_true] at hb
      obtain ⟨⟨r1, h1⟩, hc, hb⟩ := Option.bind_eq_some_iff.1 hb
      simp only [List.all_eq_true] at hs
      have l : Left G h G [] 0 := ⟨fun _ _ _ h => h, rfl, rfl, fun id hid => absurd hid (by omega), fun id n sz t hid => absurd hid (by omega), fun id hid => absurd hid (by omega)⟩
      have hx0 : RelVs G [] args X := ⟨hx.1, fun j u hu => shut1_rel l (hs u (List.mem_of_getElem? hu)) (hx.2 j u hu)⟩
      obtain ⟨e1, e2⟩ := hK f args [] _ _ hc G w X i.empty (gl.sub rfl fun id b ho => by simp [owner] at ho) hx0
      refine ⟨e1, Calls.mono e2 fun e w' hpost => ?_⟩
      exact pureBack_sound hb i hpost

theorem evF_sound (hm : P.follows .mixedOrders = true) (hX : ExtOk P A) (hlp : LpOk lp) : ∀ n, SoundK P A (evF P A lp n)
  | 0 => fun f args h r h' hb => by simp [evF] at hb
  | n + 1 => fun f args h r h' hb => evB_sound hm hX (callP_sound (evF_sound hm hX hlp n)) hlp f args h r h' hb

end
end
end Hk

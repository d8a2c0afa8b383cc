/-
  HIDDEN BLOCKS.
-/
import Derived.Test.YtkeoalhglkfbkaaDoorHkRegion
set_option linter.unusedVariables false
set_option linter.unusedSimpArgs false
namespace Hk
open Go Go.RowKit

structure Sub (h h' : Heap) : Prop where
  live : ∀ id, Hk.live h id → Hk.live h' id
  front : ∀ (id n sz : Nat), h[id]? = some (.front n sz) → h'[id]? = some (.front n sz)

theorem RelV.sub {G : Gh} {h h' : Heap} (s : Sub h h') {v : AVal} {V : Value} (r : RelV G h v V) : RelV G h' v V := by
  induction r with
  | p v V hp => exact .p v V hp
  | agg cs C hl _ ih => exact .agg cs C hl ih
  | tuple cs C hl _ ih => exact .tuple cs C hl ih
  | nil => exact .nil
  | own rows id n sz V hp hf hn hr hc => exact .own rows id n sz V hp (s.front _ _ _ hf) hn hr hc
  | ptr id off hl => exact .ptr id off (s.live _ hl)
  | mslice id off len sz cap hl hc => exact .mslice id off len sz cap (s.live _ hl) hc
  | mslice0 id off sz cap a => exact .mslice0 id off sz cap a
  | map id hl => exact .map id (s.live _ hl)
  | func f first cap F C hlf hlc _ _ ihf ihc => exact .func f first cap F C hlf hlc ihf ihc
  | iface t v V _ ih => exact .iface t v V ih

theorem isBlk_iff {h : Heap} {id : Nat} : isBlk h id ↔ ∃ b, h[id]? = some b ∧ ((∃ cs, b = .cells cs) ∨ ∃ es, b = .map es) := by
  constructor
  · rintro (⟨cs, hc⟩ | ⟨es, hc⟩)
    · exact ⟨_, hc, .inl ⟨_, rfl⟩⟩
    · exact ⟨_, hc, .inr ⟨_, rfl⟩⟩
  · rintro ⟨b, hb, ⟨cs, rfl⟩ | ⟨es, rfl⟩⟩
    · exact .inl ⟨_, hb⟩
    · exact .inr ⟨_, hb⟩

theorem hide1_get (h : Heap) (a id : Nat) : (isBlk h a ∧ a = id ∧ (hide1 h a)[id]? = some .gone) ∨ (¬ (isBlk h a ∧ a = id) ∧ (hide1 h a)[id]? = h[id]?) := by
  unfold hide1
  cases hb : h[a]? with
  | none => exact .inr ⟨fun hh => (by obtain ⟨⟨_, h1⟩ | ⟨_, h1⟩, _⟩ := hh <;> rw [hb] at h1 <;> cases h1), rfl⟩
  | some b =>
    have hlt : a < h.length := (List.getElem?_eq_some_iff.1 hb).1
    cases b with
    | cells cs =>
      by_cases ha : a = id
      · subst ha; exact .inl ⟨.inl ⟨_, hb⟩, rfl, by simp [hlt]⟩
      · exact .inr ⟨fun h => ha h.2, by simp [List.getElem?_set, ha]⟩
    | map es =>
      by_cases ha : a = id
      · subst ha; exact .inl ⟨.inr ⟨_, hb⟩, rfl, by simp [hlt]⟩
      · exact .inr ⟨fun h => ha h.2, by simp [List.getElem?_set, ha]⟩
    | _ => exact .inr ⟨fun hh => (by obtain ⟨⟨_, h1⟩ | ⟨_, h1⟩, _⟩ := hh <;> rw [hb] at h1 <;> cases h1), rfl⟩

theorem hide_get (ids : List Nat) : ∀ (h : Heap) (id : Nat), (id ∈ ids ∧ isBlk h id ∧ (hide ids h)[id]? = some .gone) ∨ (¬ (id ∈ ids ∧ isBlk h id) ∧ (hide ids h)[id]? = h[id]?) := by
  induction ids with
  | nil => intro h id; exact .inr ⟨by simp, rfl⟩
  | cons a ids ih =>
    intro h id
    have hc : (hide (a :: ids) h) = hide ids (hide1 h a) := rfl
    rw [hc]
    rcases hide1_get h a id with ⟨h1, rfl, h3⟩ | ⟨h1, h2⟩
    · rcases ih (hide1 h a) a with ⟨h4, h5, h6⟩ | ⟨h4, h5⟩
      · exact .inl ⟨by simp, h1, h6⟩
      · exact .inl ⟨by simp, h1, h5.trans h3⟩
    · have hb : isBlk (hide1 h a) id ↔ isBlk h id := by unfold isBlk; rw [h2]
      rcases ih (hide1 h a) id with ⟨h4, h5, h6⟩ | ⟨h4, h5⟩
      · exact .inl ⟨by simp [h4], hb.1 h5, h6⟩
      · refine .inr ⟨fun hh => ?_, h5.trans h2⟩
        rcases List.mem_cons.1 hh.1 with he | he
        · exact h1 ⟨he ▸ hh.2, he.symm⟩
        · exact h4 ⟨he, hb.2 hh.2⟩

theorem unhide1_get (h r : Heap) (a id : Nat) (hlt : isBlk h a → a < r.length) : (isBlk h a ∧ a = id ∧ (unhide1 h r a)[id]? = h[id]?) ∨ (¬ (isBlk h a ∧ a = id) ∧ (unhide1 h r a)[id]? = r[id]?) := by
  unfold unhide1
  cases hb : h[a]? with
  | none => exact .inr ⟨fun hh => (by obtain ⟨⟨_, h1⟩ | ⟨_, h1⟩, _⟩ := hh <;> rw [hb] at h1 <;> cases h1), rfl⟩
  | some b =>
    cases b with
    | cells cs =>
      have := hlt (.inl ⟨_, hb⟩)
      by_cases ha : a = id
      · subst ha; exact .inl ⟨.inl ⟨_, hb⟩, rfl, by simp [this, hb]⟩
      · exact .inr ⟨fun h => ha h.2, by simp [List.getElem?_set, ha]⟩
    | map es =>
      have := hlt (.inr ⟨_, hb⟩)
      by_cases ha : a = id
      · subst ha; exact .inl ⟨.inr ⟨_, hb⟩, rfl, by simp [this, hb]⟩
      · exact .inr ⟨fun h => ha h.2, by simp [List.getElem?_set, ha]⟩
    | _ => exact .inr ⟨fun hh => (by obtain ⟨⟨_, h1⟩ | ⟨_, h1⟩, _⟩ := hh <;> rw [hb] at h1 <;> cases h1), rfl⟩

theorem unhide1_length (h r : Heap) (a : Nat) : (unhide1 h r a).length = r.length := by
  unfold unhide1; split <;> simp

theorem unhide_get (h : Heap) (ids : List Nat) : ∀ (r : Heap) (id : Nat), (∀ a ∈ ids, isBlk h a → a < r.length) →
    (id ∈ ids ∧ isBlk h id ∧ (unhide ids h r)[id]? = h[id]?) ∨ (¬ (id ∈ ids ∧ isBlk h id) ∧ (unhide ids h r)[id]? = r[id]?) := by
  induction ids with
  | nil => intro r id _; exact .inr ⟨by simp, rfl⟩
  | cons a ids ih =>
    intro r id hlt
    have hc : unhide (a :: ids) h r = unhide ids h (unhide1 h r a) := rfl
    rw [hc]
    have ih' := ih (unhide1 h r a) id fun b hb hbl => by rw [unhide1_length]; exact hlt b (by simp [hb]) hbl
    rcases unhide1_get h r a id (hlt a (by simp)) with ⟨h1, rfl, h3⟩ | ⟨h1, h2⟩
    · rcases ih' with ⟨h4, h5, h6⟩ | ⟨h4, h5⟩
      · exact .inl ⟨by simp, h1, h6⟩
      · exact .inl ⟨by simp, h1, h5.trans h3⟩
    · rcases ih' with ⟨h4, h5, h6⟩ | ⟨h4, h5⟩
      · exact .inl ⟨by simp [h4], h5, h6⟩
      · refine .inr ⟨fun hh => ?_, h5.trans h2⟩
        rcases List.mem_cons.1 hh.1 with he | he
        · exact h1 ⟨he ▸ hh.2, he.symm⟩
        · exact h4 ⟨he, hh.2⟩

theorem hide_sub (ids : List Nat) (h : Heap) : Sub h (hide ids h) where
  live := fun id ⟨b, h1, h2⟩ => by
    rcases hide_get ids h id with ⟨_, _, h5⟩ | ⟨_, h5⟩
    · exact ⟨_, h5, by simp⟩
    · exact ⟨b, h5.trans h1, h2⟩
  front := fun id n sz hf => by
    rcases hide_get ids h id with ⟨_, h4 | h4, _⟩ | ⟨_, h5⟩
    · obtain ⟨_, h4⟩ := h4; rw [hf] at h4; cases h4
    · obtain ⟨_, h4⟩ := h4; rw [hf] at h4; cases h4
    · exact h5.trans hf

theorem hide_owner {G : Gh} {ids : List Nat} {h : Heap} {id b : Nat} (ho : owner G (hide ids h) id = some b) : owner G h id = some b ∧ ¬ (id ∈ ids ∧ isBlk h id) := by
  rcases hide_get ids h id with ⟨_, _, h5⟩ | ⟨h4, h5⟩
  · simp [owner, h5] at ho
  · refine ⟨?_, h4⟩
    unfold owner at *; rw [h5] at ho; exact ho

theorem BlkOk.sub {G : Gh} {h h' : Heap} {w : World} {id : Nat} {bl : ABlk} (s : Sub h h') (b : BlkOk G h w id bl) : BlkOk G h' w id bl := by
  cases bl with
  | cells cs =>
    obtain ⟨C, e, h1, h2, h3, h4⟩ := b
    exact ⟨C, e, h1, h2, h3, fun i v hv => ⟨(h4 i v hv).1, (h4 i v hv).2.sub s⟩⟩
  | map es =>
    obtain ⟨E, c, h1, h2, h3, h4⟩ := b
    refine ⟨E, c, h1, h2, h3, fun i kv hkv => ?_⟩
    obtain ⟨m, h5, h6, h7, h8⟩ := h4 i kv hkv
    exact ⟨m, h5, h6, h7, h8.sub s⟩
  | _ => exact b

theorem Inv.hide {G : Gh} {h : Heap} {w : World} (i : Inv G h w) (ids : List Nat) : Inv G (hide ids h) w where
  ok := i.ok
  blk := fun id bl hb => by
    rcases hide_get ids h id with ⟨_, _, h5⟩ | ⟨h4, h5⟩
    · rw [h5] at hb; cases hb; trivial
    · exact (i.blk id bl (h5.symm.trans hb)).sub (hide_sub ids h)
  inj := fun a b c h1 h2 => i.inj a b c (hide_owner h1).1 (hide_owner h2).1

theorem owner_blk {G : Gh} {h : Heap} {id : Nat} (hb : isBlk h id) : owner G h id = some (G.blk id) := by
  unfold owner
  rcases hb with ⟨cs, hb⟩ | ⟨es, hb⟩ <;> rw [hb]

theorem unhide_ok {G G' : Gh} {h h' : Heap} {w w' : World} {ids : List Nat} (i : Inv G h w) (x : Ext G (Hk.hide ids h) w G' h' w') (i' : Inv G' h' w') :
    Ext G h w G' (unhide ids h h') w' ∧ Inv G' (unhide ids h h') w' ∧ Sub h' (unhide ids h h') ∧ ∀ id ∈ ids, isBlk h id → (unhide ids h h')[id]? = h[id]? := by
  have gone : ∀ id, id ∈ ids → isBlk h id → h'[id]? = some .gone ∧ G'.blk id = G.blk id := by
    intro id h1 h2
    rcases hide_get ids h id with ⟨_, _, h5⟩ | ⟨h4, _⟩
    · obtain ⟨bl, h6, h7⟩ := x.kinds id _ h5
      cases bl <;> simp_all [Kind]
    · exact absurd ⟨h1, h2⟩ h4
  have get := fun id => unhide_get h ids h' id fun a ha hb => (List.getElem?_eq_some_iff.1 (gone a ha hb).1).1
  have sub : Sub h' (unhide ids h h') := by
    refine ⟨fun id ⟨b, h1, h2⟩ => ?_, fun id n sz hf => ?_⟩
    · rcases get id with ⟨_, h4, h5⟩ | ⟨_, h5⟩
      · rcases h4 with ⟨cs, h4⟩ | ⟨es, h4⟩
        · exact ⟨_, h5.trans h4, by simp⟩
        · exact ⟨_, h5.trans h4, by simp⟩
      · exact ⟨b, h5.trans h1, h2⟩
    · rcases get id with ⟨h3, h4, _⟩ | ⟨_, h5⟩
      · rw [(gone id h3 h4).1] at hf; cases hf
      · exact h5.trans hf
  have own : ∀ id b, owner G' (unhide ids h h') id = some b → (id ∈ ids ∧ isBlk h id ∧ b = G.blk id) ∨ (¬ (id ∈ ids ∧ isBlk h id) ∧ owner G' h' id = some b) := by
    intro id b ho
    rcases get id with ⟨h3, h4, h5⟩ | ⟨h4, h5⟩
    · have hb : isBlk (unhide ids h h') id := by unfold isBlk; rw [h5]; exact h4
      rw [owner_blk hb] at ho
      cases ho
      exact .inl ⟨h3, h4, (gone id h3 h4).2⟩
    · refine .inr ⟨h4, ?_⟩
      unfold owner at *; rw [h5] at ho; exact ho
  have lt : ∀ id, isBlk h id → G.blk id < w.heap.size := by
    intro id hb
    rcases hb with ⟨cs, hb⟩ | ⟨es, hb⟩
    · obtain ⟨C, e, h1, _⟩ := i.blk id _ hb
      exact (Array.getElem?_eq_some_iff.1 h1).1
    · obtain ⟨C, e, h1, _⟩ := i.blk id _ hb
      exact (Array.getElem?_eq_some_iff.1 h1).1
  have ext : Ext G h w G' (unhide ids h h') w' := by
    refine ⟨x.os, x.tape, x.output, x.size, fun b hb hn => x.frame b hb fun id ho => hn id (hide_owner ho).1, x.hmono, fun id b ho hlt => ?_, fun id bl hb => ?_⟩
    · rcases own id b ho with ⟨_, h2, rfl⟩ | ⟨_, h2⟩
      · exact owner_blk h2
      · exact (hide_owner (x.own id b h2 hlt)).1
    · rcases get id with ⟨h3, h4, h5⟩ | ⟨h4, h5⟩
      · refine ⟨bl, h5.trans hb, ?_⟩
        have := (gone id h3 h4).2
        rcases h4 with ⟨cs, h4⟩ | ⟨es, h4⟩ <;> rw [h4] at hb <;> cases hb <;> simp [Kind, this]
      · rcases hide_get ids h id with ⟨h6, h7, _⟩ | ⟨_, h7⟩
        · exact absurd ⟨h6, h7⟩ h4
        · obtain ⟨bl', h8, h9⟩ := x.kinds id bl (h7.trans hb)
          exact ⟨bl', h5.trans h8, h9⟩
  refine ⟨ext, ⟨i'.ok, fun id bl hb => ?_, fun a b c h1 h2 => ?_⟩, sub, fun id h1 h2 => ?_⟩
  · rcases get id with ⟨h3, h4, h5⟩ | ⟨h4, h5⟩
    · have hb' : h[id]? = some bl := h5.symm.trans hb
      have hblk := i.blk id bl hb'
      obtain ⟨f1, f2⟩ := x.frame (G.blk id) (lt id h4) fun j ho => by
        obtain ⟨h6, h7⟩ := hide_owner ho
        have := i.inj j id _ h6 (owner_blk h4)
        subst this
        exact h7 ⟨h3, h4⟩
      have hbl := (gone id h3 h4).2
      rcases h4 with ⟨cs, h4⟩ | ⟨es, h4⟩
      · rw [h4] at hb'; cases hb'
        obtain ⟨C, e, g1, g2, g3, g4⟩ := hblk
        exact ⟨C, e, by rw [hbl, f1]; exact g1, g2, fun k => by rw [hbl, f2]; exact g3 k, fun j v hv => ⟨(g4 j v hv).1, (g4 j v hv).2.mono ext.toMono⟩⟩
      · rw [h4] at hb'; cases hb'
        obtain ⟨C, e, g1, g2, g3, g4⟩ := hblk
        refine ⟨C, e, by rw [hbl, f1]; exact g1, g2, fun k => by rw [hbl, f2]; exact g3 k, fun j v hv => ?_⟩
        obtain ⟨m, g5, g6, g7, g8⟩ := g4 j v hv
        exact ⟨m, g5, g6, g7.mono ext.hmono, g8.mono ext.toMono⟩
    · exact (i'.blk id bl (h5.symm.trans hb)).sub sub
  · rcases own a c h1 with ⟨a1, a2, rfl⟩ | ⟨a1, a2⟩ <;> rcases own b _ h2 with ⟨b1, b2, hb⟩ | ⟨b1, b2⟩
    · exact i.inj a b _ (owner_blk a2) (hb ▸ owner_blk b2)
    · exact i.inj a b _ (owner_blk a2) (hide_owner (x.own b _ b2 (lt a a2))).1
    · subst hb
      exact i.inj a b _ (hide_owner (x.own a _ a2 (lt b b2))).1 (owner_blk b2)
    · exact i'.inj a b c a2 b2
  · rcases get id with ⟨_, _, h5⟩ | ⟨h4, _⟩
    · exact h5
    · exact absurd ⟨h1, h2⟩ h4

end Hk

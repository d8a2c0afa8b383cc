/-
  The texts SH.T0, SH.FR, SH.P3, SH.W, SH.K, SH.MF, SH.PK, SH.E1, SH.E2, SH.E3, SH.U, SH.G, SH.R8, SH.Z, SH.W3, one behind another. No conditions.
-/
import Derived.RangeFuncKeeps
import Derived.RangeFuncLeaves
import Derived.Shelf.Abstract
import Derived.WalkKit
import Derived.OwnWalkIn
import Derived.TacticsInMore
import Derived.LoopNIn
import Derived.LoopIn
import Derived.Test.YtckbkcjhalimpabGreatDoorProg
import Derived.Test.YtckbkcjhalimpabGreatDoorVk3
import Derived.Test.YtckbkcjhalimpabGreatDoorVk4
import Derived.Test.YtckbkcjhalimpabGreatDoorSh2
import Derived.Test.YtckbkcjhalimpabGreatDoorRows
import Derived.Lib.LaidTab
import Derived.LaidMore
import Derived.MakeChecks
import Derived.LaidHandle
import Derived.SevenTiedAt
import Derived.Test.YtckbkcjhalimpabGreatDoorShapeLives
set_option linter.unusedVariables false
set_option linter.unusedSimpArgs false
set_option linter.all false
namespace Go.Proofs.YtckbkcjhalimpabGreatDoor
section
open Go Go.RowKit Go.Shelf Hk
attribute [local go_sem] Oper.semAt_some
/-- A field's values. -/
structure FV where
  s : ByteArray
  a : Int
  b : Int
  c : Int
  f : Bool
  d : Int
  e : Int
def FV.V (x : FV) : Value := .agg #[.string x.s, .int .i64 x.a, .int .i64 x.b, .int .i64 x.c, .bool x.f, .int .i64 x.d, .int .i64 x.e]
def cnt (fl : Nat → FV) (o : Bool) : Nat → Nat
  | 0 => 0
  | i + 1 => if (fl i).f = o then cnt fl o i + 1 else cnt fl o i
theorem cnt_le (fl : Nat → FV) (o : Bool) : ∀ i, cnt fl o i ≤ i
  | 0 => Nat.le_refl _
  | i + 1 => by have := cnt_le fl o i; unfold cnt; split <;> omega
def Lies (W : World) (b off : Nat) (N : Nat) (F : Nat → FV) : Prop := ∀ i, i < N → W.cell? ⟨b, off + i * 7, none⟩ = some (.string (F i).s) ∧ W.cell? ⟨b, off + i * 7 + 1, none⟩ = some (.int .i64 (F i).a) ∧ W.cell? ⟨b, off + i * 7 + 2, none⟩ = some (.int .i64 (F i).b) ∧
  W.cell? ⟨b, off + i * 7 + 3, none⟩ = some (.int .i64 (F i).c) ∧ W.cell? ⟨b, off + i * 7 + 4, none⟩ = some (.bool (F i).f) ∧ W.cell? ⟨b, off + i * 7 + 5, none⟩ = some (.int .i64 (F i).d) ∧ W.cell? ⟨b, off + i * 7 + 6, none⟩ = some (.int .i64 (F i).e)
set_option maxRecDepth 100000 in
set_option maxHeartbeats 1000000 in
theorem some_in (n : Nat) (l : Nat) (A1 A2 : Addr) (sa : Option Addr) (b off N cap : Nat) (hsa : 0 < N → sa = some ⟨b, off, none⟩) (hN : N ≤ 4611686018427387904) (o : Bool) (F : Nat → FV) (J : Nat → World → Prop) (Jx : World → Prop)
    (hst : ∀ k W W', J k W → W.grownBy W' none → J k W')
    (hM : ∀ k W, J k W → W.cell? A2 = some (.bool o) ∧ Lies W b off N F)
    (hY : ∀ i W, i < N → (F i).f = o → J (cnt F o i) W → YieldAt Fence.wide (n - 1) Tryz.prog l #[.int .i64 (cnt F o i : Nat), (F i).V] W fun e W' => (e = .returned (.bool true) ∧ J (cnt F o i + 1) W') ∨ (e = .returned (.bool false) ∧ Jx W'))
    (W : World) (h1 : W.cell? A1 = some (.slice sa N cap)) (h0 : J 0 W) :
    CallsIn Fence.wide n Tryz.prog 35 #[.func (.yield l) #[] #[], .pointer (some A1), .pointer (some A2)] W fun e W' => (∃ v, e = .returned v) ∧ (J (cnt F o N) W' ∨ Jx W') := by
  refine callsIn_of_wp Tryz.func35 rfl trivial ?_ rfl
  simp only [Tryz.ntmps35, List.size_toArray, List.length_cons, List.length_nil, Nat.reduceAdd, Nat.reduceSub, Array.replicate_succ, Array.replicate_zero, List.push_toArray, List.append_toArray, List.nil_append, List.cons_append]
  gi_wp2
  gi_loopw [4, 9] (fun vk vi wr => ∃ i : Nat, i ≤ N ∧ vi = .int .i64 (i : Nat) ∧ vk = .int .i64 (cnt F o i : Nat) ∧ J (cnt F o i) wr)
    (fun _ vi _ => match vi with | .int _ z => N - z.toNat | _ => 0)
  case atStart => exact ⟨0, Nat.zero_le _, rfl, rfl, h0⟩
  case round =>
    obtain ⟨i, hi, rfl, rfl, hJ⟩ := hrel
    by_cases hlt : i < N
    · obtain rfl := hsa (by omega)
      have hlt' : (i : Int) < (N : Int) := by omega
      obtain ⟨m2, m1⟩ := hM _ _ hJ
      obtain ⟨c0, c1, c2, c3, c4, c5, c6⟩ := m1 i hlt
      have m3 : ∀ O : Obj, (wr.alloc O).cell? A2 = some (.bool o) := fun O => (World.cell?_of_block (Below.heap_alloc wr O _ (by
        unfold World.cell? at m2
        cases hh : wr.heap[A2.block]? with
        | none => rw [hh] at m2; cases m2
        | some x => exact (Array.getElem?_eq_some_iff.1 hh).1))).trans m2
      by_cases hf : (F i).f = o
      · have hf' : (F i).f == o := by simp [hf]
        have hJ1 := hst _ _ _ hJ (World.grownBy_alloc wr (Obj.cells #[.string (F i).s, .int .i64 (F i).a, .int .i64 (F i).b, .int .i64 (F i).c, .bool (F i).f, .int .i64 (F i).d, .int .i64 (F i).e] 51) none)
        obtain ⟨fn, tmps, assign, body, hy, hR⟩ := hY i _ hlt hf hJ1
        simp only [FV.V, hf] at hy
        rw [hf] at hR
        have hcl := cnt_le F o i
        have hw : Go.RowKit.wrap64 ((cnt F o i : Int) + 1) = ((cnt F o i + 1 : Nat) : Int) := by
          unfold Go.RowKit.wrap64; omega
        gi_wp2
        refine ⟨(fun h => by cases h), hR.mono ?_⟩
        rintro e W3 (⟨rfl, hJ3⟩ | ⟨rfl, hJx3⟩)
        · have hc : cnt F o (i + 1) = cnt F o i + 1 := by simp [cnt, hf]
          gi_wp2
          refine ⟨⟨i + 1, hlt, by simp, by rw [hc]; simp, by rw [hc]; exact hJ3⟩, ?_⟩
          show N - ((i : Int) + 1).toNat < N - (i : Int).toNat
          omega
        · gi_wp2
          refine bodyPost_ret (results_none rfl _ _ _) rfl ?_
          exact ⟨⟨_, rfl⟩, .inr hJx3⟩
      · have hf' : ((F i).f == o) = false := by simp [hf]
        have hc : cnt F o (i + 1) = cnt F o i := by simp [cnt, hf]
        gi_wp2
        refine ⟨⟨i + 1, hlt, by simp, by rw [hc], by rw [hc]; exact hst _ _ _ hJ (World.grownBy_alloc wr _ none)⟩, ?_⟩
        show N - ((i : Int) + 1).toNat < N - (i : Int).toNat
        omega
    · have hlt' : ¬ (i : Int) < (N : Int) := by omega
      gi_wp2
      go_end0
      obtain rfl : i = N := by omega
      exact ⟨⟨_, rfl⟩, .inl hJ⟩

theorem aload_cell {G : Gh} {h : Heap} {W : World} (i : Inv G h W) {p o : Nat} {v : AVal} (hb : aload false 1 h (.ptr p o) = some v) : ∃ V, W.cell? ⟨G.blk p, o, none⟩ = some V ∧ RelV G h v V := by
  unfold aload at hb
  simp only at hb
  split at hb
  case h_2 => cases hb
  rename_i cs hgb
  unfold getBlk at hgb
  split at hgb <;> simp only [Option.some.injEq, reduceCtorEq] at hgb
  rename_i cs' hid
  subst hgb
  simp only [apart, cond_false] at hb
  obtain ⟨C, e, h1, h2, h3, h4⟩ := i.blk p _ hid
  have hlt : o < C.size := by rw [h2]; exact (List.getElem?_eq_some_iff.1 hb).1
  refine ⟨C.getD o undef, ?_, (h4 o v hb).2⟩
  rw [cell_of W _ _ h1, Array.getElem?_eq_getElem hlt]
  simp [Array.getD_eq_getD_getElem?, hlt]
def toFV : List AVal → FV
  | [.str s, .int .i64 a, .int .i64 b, .int .i64 c, .bool f, .int .i64 d, .int .i64 e] => ⟨⟨s.toArray⟩, a, b, c, f, d, e⟩
  | _ => ⟨⟨#[]⟩, 0, 0, 0, false, 0, 0⟩
theorem cnt_front (F : Nat → FV) (o : Bool) : ∀ i, cnt F o (i + 1) = (if (F 0).f = o then 1 else 0) + cnt (fun j => F (j + 1)) o i
  | 0 => by simp [cnt]
  | i + 1 => by
    rw [cnt, cnt_front F o i]
    show _ = _ + cnt (fun j => F (j + 1)) o (i + 1)
    simp only [cnt]
    split <;> omega
theorem fld_spec {o : Bool} : ∀ (rows : List (List AVal)) (k : Nat) (es : List (List AVal)) (F : Nat → FV), (∀ i r, rows[i]? = some r → F i = toFV r) → fldRows o k rows = some es →
    (∀ r ∈ rows, ∃ s a b c f d e, r = [.str s, .int .i64 a, .int .i64 b, .int .i64 c, .bool f, .int .i64 d, .int .i64 e]) ∧ es.length = cnt F o rows.length ∧
    (∀ i r, rows[i]? = some r → (F i).f = o → es[cnt F o i]? = some [.int .i64 ((k + cnt F o i : Nat) : Int), .agg r]) ∧ ∀ e ∈ es, ∃ n r, e = [.int .i64 n, .agg r] ∧ r ∈ rows
  | [], k, es, F, _, hb => by
    simp only [fldRows, Option.some.injEq] at hb
    subst hb
    simp [cnt]
  | r :: rows, k, es, F, hF, hb => by
    unfold fldRows at hb
    split at hb
    case h_1 h => cases h
    case h_3 => cases hb
    rename_i s a b c f d e rs heq
    cases heq
    have h0 := hF 0 _ rfl
    have hf0 : (F 0).f = f := by rw [h0]; rfl
    have hF' : ∀ i r, rows[i]? = some r → F (i + 1) = toFV r := fun i r hr => hF (i + 1) r (by simpa using hr)
    cases hfo : f == o with
    | true =>
      rw [hfo] at hb
      simp only [cond_true, Option.map_eq_some_iff] at hb
      obtain ⟨es', hb, rfl⟩ := hb
      obtain ⟨e1, e2, e3, e4⟩ := fld_spec rows _ es' (fun j => F (j + 1)) hF' hb
      have hfo' : (F 0).f = o := by rw [hf0]; simpa using hfo
      refine ⟨fun r hr => ?_, ?_, fun i r hr hfi => ?_, fun e he => ?_⟩
      · rcases List.mem_cons.1 hr with rfl | hr
        · exact ⟨s, a, b, c, f, d, e, rfl⟩
        · exact e1 r hr
      · rw [List.length_cons, List.length_cons, cnt_front, if_pos hfo', e2]; omega
      · cases i with
        | zero => simp at hr; subst hr; simp [cnt]
        | succ i =>
          rw [cnt_front, if_pos hfo', Nat.add_comm 1, List.getElem?_cons_succ, e3 i r (by simpa using hr) hfi]
          simp only [Option.some.injEq, List.cons.injEq, AVal.int.injEq, true_and, and_true]
          omega
      · rcases List.mem_cons.1 he with rfl | he
        · exact ⟨_, _, rfl, by simp⟩
        · obtain ⟨n, r, h1, h2⟩ := e4 e he
          exact ⟨n, r, h1, by simp [h2]⟩
    | false =>
      rw [hfo] at hb
      simp only [cond_false] at hb
      obtain ⟨e1, e2, e3, e4⟩ := fld_spec rows _ es (fun j => F (j + 1)) hF' hb
      have hfo' : ¬ (F 0).f = o := by rw [hf0]; simpa using hfo
      refine ⟨fun r hr => ?_, ?_, fun i r hr hfi => ?_, fun e he => ?_⟩
      · rcases List.mem_cons.1 hr with rfl | hr
        · exact ⟨s, a, b, c, f, d, e, rfl⟩
        · exact e1 r hr
      · rw [List.length_cons, cnt_front, if_neg hfo', e2]; omega
      · cases i with
        | zero => exact absurd hfi hfo'
        | succ i =>
          rw [cnt_front, if_neg hfo', Nat.zero_add]
          exact e3 i r (by simpa using hr) hfi
      · obtain ⟨n, r, h1, h2⟩ := e4 e he
        exact ⟨n, r, h1, by simp [h2]⟩
/-- What an element of the list is as values. -/
def toE : List AVal → Array Value
  | [.int .i64 n, .agg r] => #[.int .i64 n, (toFV r).V]
  | _ => #[]
theorem toFV_V {H : Nat → Nat → Option Value} {r : List AVal} (h : ∃ s a b c f d e, r = [.str s, .int .i64 a, .int .i64 b, .int .i64 c, .bool f, .int .i64 d, .int .i64 e]) : RelP H (.agg r) (toFV r).V := by
  obtain ⟨s, a, b, c, f, d, e, rfl⟩ := h
  refine .agg _ _ rfl fun i v hv => ?_
  match i with
  | 0 => simp at hv; subst hv; exact .str s
  | 1 => simp at hv; subst hv; exact .int _ _
  | 2 => simp at hv; subst hv; exact .int _ _
  | 3 => simp at hv; subst hv; exact .int _ _
  | 4 => simp at hv; subst hv; exact .bool _
  | 5 => simp at hv; subst hv; exact .int _ _
  | 6 => simp at hv; subst hv; exact .int _ _
  | i + 7 => simp at hv
theorem iterOk : IterOk Tryz.prog 35 fldK := by
  refine ⟨enters_of Tryz.func35 (by kernel_rfl) rfl, ?_⟩
  intro cap h es hseq G w C i hlen hrel
  unfold fldK at hseq
  simp only at hseq
  split at hseq
  case h_2 => cases hseq
  rename_i p i1 q j1
  split at hseq
  case h_2 => cases hseq
  rename_i rows t o hp hq
  cases hN : decide (rows.length ≤ 4611686018427387904) with
  | false => rw [hN] at hseq; cases hseq
  | true =>
  rw [hN] at hseq
  simp only [cond_true] at hseq
  have hN : rows.length ≤ 4611686018427387904 := of_decide_eq_true hN
  obtain ⟨F, hF⟩ : ∃ F : Nat → FV, F = fun i => toFV (rows.getD i []) := ⟨_, rfl⟩
  have hFr : ∀ i r, rows[i]? = some r → F i = toFV r := fun i r hr => by rw [hF]; simp [List.getD, hr]
  obtain ⟨e1, e2, e3, e4⟩ := fld_spec rows 0 es F hFr hseq
  have hCs : ∃ V1 V2, C = #[V1, V2] := by
    obtain ⟨l⟩ := C
    match l, hlen with
    | [a, b], _ => exact ⟨a, b, rfl⟩
  obtain ⟨V1, V2, rfl⟩ := hCs
  have r1 : RelV G h (.ptr p i1) V1 := hrel 0 _ rfl
  have r2 : RelV G h (.ptr q j1) V2 := hrel 1 _ rfl
  obtain ⟨hV1, _⟩ := r1.ptr_inv
  obtain ⟨hV2, _⟩ := r2.ptr_inv
  obtain ⟨SV, hS, hSr⟩ := aload_cell i hp
  have hSp := hSr.slice_inv
  refine ⟨es.map toE, by simp, fun n e E he hE => ?_, ?_⟩
  · rw [List.getElem?_map, he] at hE
    obtain ⟨m, r, rfl, hr⟩ := e4 e (List.mem_of_getElem? he)
    simp only [Option.map_some, Option.some.injEq, toE] at hE
    subst hE
    refine ⟨rfl, fun j v hv => ?_⟩
    match j with
    | 0 => simp at hv; subst hv; exact .int _ _
    | 1 => simp at hv; subst hv; exact toFV_V (e1 r hr)
    | j + 2 => simp at hv
  · intro l n J Jx hst hstx hM hY W hgW h0
    -- where the rows lie
    obtain ⟨sa, b, off, cap', hsv, hsa, hLies⟩ : ∃ sa b off cap', SV = .slice sa rows.length cap' ∧ (0 < rows.length → sa = some ⟨b, off, none⟩) ∧ ∀ (G' : Gh) (h' : Heap) (W' : World), Inv G' h' W' → (∀ b j v, G.H b j = some v → G'.H b j = some v) → Lies W' b off rows.length F := by
      cases hSp with
      | slice0 a cap => exact ⟨a, 0, 0, cap, rfl, fun h => by simp at h, fun _ _ _ _ _ i hi => by simp at hi⟩
      | slice rows b off cap sz V hr hc hH hk hV =>
        refine ⟨_, b, off, cap, rfl, fun _ => rfl, fun G' h' W' i' hh n hn => ?_⟩
        have hrn := List.getElem?_eq_getElem hn
        obtain ⟨s, a1, a2, a3, f, a5, a6, hrow⟩ := e1 _ (List.getElem_mem hn)
        have hsz : sz = 7 := by have := hr _ (List.getElem_mem hn); rw [hrow] at this; simpa using this.symm
        subst hsz
        have hFn : F n = ⟨⟨s.toArray⟩, a1, a2, a3, f, a5, a6⟩ := by rw [hFr n _ hrn, hrow]; rfl
        rw [hrow] at hrn
        have cell : ∀ j v U, [AVal.str s, .int .i64 a1, .int .i64 a2, .int .i64 a3, .bool f, .int .i64 a5, .int .i64 a6][j]? = some v → (∀ X, RelP G.H v X → X = U) → W'.cell? ⟨b, off + (n * 7 + j), none⟩ = some U := by
          intro j v U hv hU
          rw [i'.ok _ _ _ (hh _ _ _ (hH n j _ v hrn hv)), hU _ (hV n j _ v hrn hv)]
        rw [hFn]
        refine ⟨cell 0 _ _ rfl (fun X h => by cases h; rfl), cell 1 _ _ rfl (fun X h => by cases h; rfl), cell 2 _ _ rfl (fun X h => by cases h; rfl), cell 3 _ _ rfl (fun X h => by cases h; rfl), cell 4 _ _ rfl (fun X h => by cases h; rfl), cell 5 _ _ rfl (fun X h => by cases h; rfl), cell 6 _ _ rfl (fun X h => by cases h; rfl)⟩
    subst hV1 hV2
    have at0 : ∀ k W, J k W → W.cell? ⟨G.blk q, j1, none⟩ = some (.bool o) ∧ Lies W b off rows.length F := by
      intro k W hj
      obtain ⟨G', h', i', hc, ha, hh⟩ := hM k W hj
      refine ⟨?_, hLies G' h' W i' hh⟩
      have hq' := (ha (.ptr q j1) (by simp)).trans hq
      obtain ⟨V, c1, c2⟩ := aload_cell i' hq'
      obtain ⟨hb, _⟩ := (hc 1 _ rfl).ptr_inv
      have hb : (⟨G.blk q, j1, none⟩ : Addr) = ⟨G'.blk q, j1, none⟩ := by simpa using hb
      rw [hb, c1, c2.bool_inv]
    have hW1 : W.cell? ⟨G.blk p, i1, none⟩ = some (.slice sa rows.length cap') := by
      rw [World.cell?_of_block (w := w) (hgW.block _ (by
        unfold World.cell? at hS
        cases hh : w.heap[G.blk p]? with
        | none => rw [hh] at hS; cases hS
        | some x => exact (Array.getElem?_eq_some_iff.1 hh).1) (by simp)), hS, hsv]
    have := some_in n l ⟨G.blk p, i1, none⟩ ⟨G.blk q, j1, none⟩ sa b off rows.length cap' hsa hN o F J Jx hst at0 (fun k W hk hf hj => ?_) W hW1 h0
    · rw [e2]; exact this
    · refine hY (cnt F o k) _ W ?_ hj
      have hr := List.getElem?_eq_getElem hk
      rw [List.getElem?_map, e3 k _ hr hf]
      simp only [Option.map_some, toE, Nat.zero_add, hFr k _ hr]
end
section
open Go Hk

theorem mainIs : Tryz.pinned.checked.prog.mainIs = some (true, "08e5a0293779cea3080e2e4baac383f41bc12476401bf24bbf68834469ad726a".toList) := by kernel_rfl
theorem looksUp : true = Tryz.pinned.checked.prog.looks [] := by kernel_rfl
theorem and_mk {a b : Bool} (h : a = true) (g : b = true) : (a && b) = true := by rw [h, g]; rfl
theorem own : ownKnob Tryz.prog.godebug = none := by kernel_rfl
theorem laidOut : laidOutB Tryz.prog = true := by kernel_rfl
theorem follows : Tryz.prog.follows .mixedOrders = true := by kernel_rfl
theorem ext_eq {f : Nat} (h : ann.ext f = some .indexByte) : f = 155 := by
  unfold ann at h
  simp only [] at h
  split at h
  · assumption
  · cases h
theorem extOk : ExtOk Tryz.prog ann := by
  refine ⟨fun f hf => (by cases hf), fun f hf => ?_, fun f g hf => (by cases hf), fun f k hf => ?_, fun f k hf => ?_⟩
  · obtain rfl := ext_eq hf
    exact ⟨Tryz.f155, Tryz.func155, by kernel_rfl, by kernel_rfl, by kernel_rfl, by kernel_rfl⟩
  · unfold ann at hf
    simp only [] at hf
    split at hf
    · rename_i h; subst h; cases hf; exact copyOk
    · split at hf
      · rename_i h; subst h; cases hf; exact bldOk
      · split at hf
        · rename_i h; subst h; cases hf; exact itoaOk
        · split at hf
          · rename_i h; subst h; cases hf; exact repOk
          · cases hf
  · unfold ann at hf
    simp only [] at hf
    split at hf
    · rename_i h; subst h; cases hf; exact iterOk
    · cases hf

/-! ### The tables -/
theorem gAsciiN : Tryz.prog.globalNamed "strings.asciiSpace" = some 1 := by kernel_rfl
theorem tAscii : (Tryz.prog.globals[1]?).map (·.type) = some 212 := by kernel_rfl
theorem tPow : (Tryz.prog.globals[3]?).map (·.type) = some 230 := by kernel_rfl
def laid5 : List (String × DataW Unit) := [("math/bits.deBruijn32tab", Rows.laid_math_bits_deBruijn32tab), ("math/bits.deBruijn64tab", Rows.laid_math_bits_deBruijn64tab), ("internal/strconv.uint64pow10", Rows.laid_internal_strconv_uint64pow10),
  ("unicode.White_Space", Rows.laid_unicode_White_Space), ("strings.asciiSpace", Rows.laid_strings_asciiSpace)]

theorem tabs_laid {W : World} (h : laidMetH Tryz.prog laid5 W) : Lib.TabIs Tryz.prog W "strings.asciiSpace" .u8 asciiN ∧ Lib.TabIs Tryz.prog W "internal/strconv.uint64pow10" .u64 powN := by
  rw [MakeChecks.laidMetH_plain _ _ _ (by kernel_rfl)] at h
  obtain ⟨ps, ⟨_, _, _, _, _, _, _, _, _, _, ⟨_, _, _, _, _, _, _, _, _, _, ⟨g2, t2, cs2, f2, p2, q2, hg2, ht2, hv2, hd2, ⟨_, _, _, _, _, _, _, _, _, _, ⟨g4, t4, cs4, f4, p4, q4, hg4, ht4, hv4, hd4, _, _⟩, _⟩, _⟩, _⟩, _⟩, _, _⟩ := h
  obtain rfl := Option.some.inj (gPowName.symm.trans hg2)
  obtain rfl := Option.some.inj (tPow.symm.trans ht2)
  obtain rfl := Option.some.inj (gAsciiN.symm.trans hg4)
  obtain rfl := Option.some.inj (tAscii.symm.trans ht4)
  constructor
  · unfold Lib.TabIs
    have e : (Rows.laid_strings_asciiSpace : DataW Unit) = Lib.tabData .u8 asciiN := by kernel_rfl
    rw [e] at hd4
    rw [hv4, ← Lib.cells_of_tab (k := .u8) Tryz.underlying212 Tryz.underlying5 (by kernel_rfl) (by kernel_rfl) hd4]
  · unfold Lib.TabIs
    have e : (Rows.laid_internal_strconv_uint64pow10 : DataW Unit) = Lib.tabData .u64 powN := by kernel_rfl
    rw [e] at hd2
    rw [hv2, ← Lib.cells_of_tab (k := .u64) Tryz.underlying230 Tryz.underlying98 (by kernel_rfl) (by kernel_rfl) hd2]
theorem tab_rel {W : World} {name : String} {k : IntKind} {zs : List Int} {g : Nat} (hT : Lib.TabIs Tryz.prog W name k zs) (hg : Tryz.prog.globalNamed name = some g) :
    RelP (gh W).H (.pptr (zs.map (.int k))) (.pointer (some ⟨g, 0, none⟩)) := by
  refine .pptr _ g 0 (fun j => .int k (zs.getD j 0)) ?_ ?_ ?_
  · intro j v hv
    have hj : j < zs.length := by
      have := (List.getElem?_eq_some_iff.1 hv).1
      simpa using this
    simpa [gh] using hT.cell hg j hj
  · intro j v hv
    simp only [List.getElem?_map, Option.map_eq_some_iff] at hv
    obtain ⟨z, _, rfl⟩ := hv
    rfl
  · intro j v hv
    simp only [List.getElem?_map, Option.map_eq_some_iff] at hv
    obtain ⟨z, hz, rfl⟩ := hv
    have : zs.getD j 0 = z := by simp [List.getD, hz]
    rw [this]
    exact .int _ _
theorem globOk {W : World} (h : laidMetH Tryz.prog laid5 W) : GlobOk ann (gh W) [] W := by
  obtain ⟨h1, h2⟩ := tabs_laid h
  refine ⟨fun g cs hg => ?_, fun g n hg => ?_⟩
  · unfold ann at hg
    simp only [] at hg
    split at hg
    · rename_i h0
      subst h0
      cases hg
      exact tab_rel h1 gAsciiN
    · split at hg
      · rename_i h0
        subst h0
        cases hg
        exact tab_rel h2 gPowName
      · cases hg
  · unfold ann at hg
    simp only [] at hg
    split at hg
    · rename_i h0
      subst h0
      cases hg
      refine ⟨fun id => by simp [owner], ?_⟩
      unfold Lib.TabIs World.var? at h2
      rw [gPowName] at h2
      simp only [Option.bind_some] at h2
      split at h2
      · rename_i cs e fr hh
        refine ⟨cs, e, fr, hh, ?_⟩
        rw [Option.some.inj h2]
        rfl
      · cases h2
    · cases hg

theorem wtables (args : Array Value) (os : Os) : laidMetH Tryz.prog laid5 ((World.doorLaid Tryz.prog 600 os).forCall (fun _ _ => 0) ⟨#[], args, []⟩).memory :=
  laidMetH_of_parts3 (fuel := 8) (laidMet_of_run' 8 (by kernel_rfl) (by kernel_rfl)) (by kernel_rfl) (by kernel_rfl)
theorem wshape (args : Array Value) (os : Os) : ((World.doorLaid Tryz.prog 600 os).forCall (fun _ _ => 0) ⟨#[], args, []⟩).variablesRefB Tryz.prog = true := by kernel_rfl
theorem wrest (args : Array Value) (os : Os) : ((((World.doorLaid Tryz.prog 600 os).forCall (fun _ _ => 0) ⟨#[], args, []⟩).heap.toList.drop Tryz.prog.globals.size).take ((begin Tryz.prog (fun _ _ => 0) default).world.heap.size - Tryz.prog.globals.size)) =
      (begin Tryz.prog (fun _ _ => 0) default).world.heap.toList.drop Tryz.prog.globals.size := by kernel_rfl

/-! ### Readers -/
theorem rdInt (n : Nat) : Rd Tryz.prog n 3 (fun z : Int => [.int .i64 z]) (fun z => (Lit.int .i64 z).wf = true) := .int Tryz.underlying3
theorem rdStr (n : Nat) : Rd Tryz.prog n 9 (fun z : List UInt8 => [.str z]) (fun z => z.length ≤ maxLen) := .str Tryz.underlying9
theorem rdTy (n : Nat) : Rd Tryz.prog n 49 Ty.cells (fun _ => True) := by
  refine Rd.mono (n := n + 1) (by omega) ?_
  refine (Rd.struct (n := n) (total := 3) Tryz.underlying49 (by kernel_rfl)
    (.cons (sz := 1) rfl (by kernel_rfl) (rdInt n) (.cons (sz := 1) rfl (by kernel_rfl) (rdInt n) (.cons (sz := 1) rfl (by kernel_rfl) (rdInt n) .nil)))).to
    (fun z => (⟨z.1, z.2.1, z.2.2.1⟩ : Ty)) (fun z => rfl) (fun _ _ => trivial)
theorem rdFd (n : Nat) : Rd Tryz.prog n 51 Fd.cells (fun _ => True) := by
  refine Rd.mono (n := n + 1) (by omega) ?_
  refine (Rd.struct (n := n) (total := 7) Tryz.underlying51 (by kernel_rfl)
    (.cons (sz := 1) rfl (by kernel_rfl) (rdStr n) (.cons (sz := 3) rfl (by kernel_rfl) (rdTy n) (.cons (sz := 1) rfl (by kernel_rfl) (Rd.bool Tryz.underlying4) (.cons (sz := 1) rfl (by kernel_rfl) (rdInt n) (.cons (sz := 1) rfl (by kernel_rfl) (rdInt n) .nil)))))).to
    (fun z => (⟨z.1, z.2.1, z.2.2.1, z.2.2.2.1, z.2.2.2.2.1⟩ : Fd)) (fun z => rfl) (fun _ _ => trivial)
theorem rdFds (n : Nat) : Rd Tryz.prog n 22 (fun z : List Fd => [.slice (z.map Fd.cells) .no]) (fun z => z.length ≤ maxLen ∧ ∀ a ∈ z, True) :=
  Rd.mono (n := n + 1) (by omega) (Rd.slice (sz := 6) Tryz.underlying22 (by kernel_rfl) (fun _ => rfl) (rdFd n))
theorem rdInts (n : Nat) : Rd Tryz.prog n 61 (fun z : List Int => [.slice (z.map fun z => [.int .i64 z]) .no]) (fun z => z.length ≤ maxLen ∧ ∀ a ∈ z, (Lit.int .i64 a).wf = true) :=
  Rd.mono (n := n + 1) (by omega) (Rd.slice (sz := 0) Tryz.underlying61 (by kernel_rfl) (fun _ => rfl) (rdInt n))
theorem rdVals (n : Nat) : Rd Tryz.prog n 23 (fun z : List (List Int) => [.slice (z.map fun y => [.slice (y.map fun z => [.int .i64 z]) .no]) .no]) (fun z => z.length ≤ maxLen ∧ ∀ a ∈ z, a.length ≤ maxLen ∧ ∀ b ∈ a, (Lit.int .i64 b).wf = true) :=
  Rd.mono (n := n + 1) (by omega) (Rd.slice (sz := 0) Tryz.underlying23 (by kernel_rfl) (fun _ => rfl) (rdInts n))
theorem noAggS {W : World} {b : Nat} {V : Value} (h : Value.okWide Tryz.prog W .any b 9 V) : ∀ C, V ≠ .agg C := by
  intro C hC
  subst hC
  simp [Value.okWide, Tryz.underlying9, Cell.okWide, Cell.ok] at h
theorem noAggF {W : World} {b : Nat} {V : Value} (h : Value.okWide Tryz.prog W .any b 22 V) : ∀ C, V ≠ .agg C := by
  intro C hC
  subst hC
  simp [Value.okWide, Tryz.underlying22, Cell.okWide, Cell.ok] at h
theorem noAggV {W : World} {b : Nat} {V : Value} (h : Value.okWide Tryz.prog W .any b 23 V) : ∀ C, V ≠ .agg C := by
  intro C hC
  subst hC
  simp [Value.okWide, Tryz.underlying23, Cell.okWide, Cell.ok] at h

/-- A law that a function run on its arguments alone answers. -/
theorem of_KK {f : Nat} {args : List AVal} {v : AVal} (hp : ann.pure f = true) (h : KK f args [] = some (.ret v, [])) : evW Tryz.prog ann f args [] = some (.ret v, []) := by
  unfold KK callP at h
  rw [hp] at h
  simp only [cond_true] at h
  cases ha : args.all (AVal.shut1 0) with
  | false => rw [ha] at h; cases h
  | true =>
    rw [ha] at h
    simp only [cond_true] at h
    obtain ⟨r, h1, h2⟩ := Option.bind_eq_some_iff.1 h
    obtain ⟨r1, r2⟩ := r
    cases r2 with
    | nil => cases h2; exact h1
    | cons a l =>
      simp only [pureBack] at h2
      revert h2
      cases (ann.out f && _) <;> intro h2
      · cases h2
      · simp at h2
end
section
open Go Hk
theorem kind_flags (f : Fd) : kindB f = !(((!decide (f.ty.elem = 0)) && (!decide (f.ty.elem = 2))) || decide (f.ty.lab < 0) || decide (1 < f.ty.lab) || decide (f.ty.len < 0) || decide (16384 < f.ty.len) || (decide (f.ty.len = 0) && (f.out || decide (f.ty.elem = 2)))) := by
  obtain ⟨nm, ⟨e, n, l⟩, o, a, b⟩ := f
  rw [Bool.eq_iff_iff]
  simp only [kindB, decide_eq_true_eq, Bool.not_eq_true', Bool.or_eq_false_iff, Bool.and_eq_false_iff, Bool.not_eq_false', decide_eq_false_iff_not, decide_eq_true_eq]
  cases o <;> simp <;> by_cases h2 : e = 2 <;> simp [h2] <;> omega
theorem t6_sel {p : List Fd} {f : Fd} {i : Int} (hi : tidx p i = some f) (x y a b : Int) (hl : i < (p.length : Int)) :
    t6_l10 p (x, y, a, b, i) = t6_s5 (!kindB f) p a b i f x y := by
  rw [kind_flags]
  unfold t6_l10
  simp only [hl, decide_true, tc_true, hi, tb_some]
  unfold t6_s0 t6_s1 t6_s2 t6_s3 t6_s4
  simp only [hi, tb_some]
  generalize decide (f.ty.elem = 0) = e0
  generalize decide (f.ty.elem = 2) = e2
  generalize decide (f.ty.lab < 0) = l0
  generalize decide (1 < f.ty.lab) = l1
  generalize decide (f.ty.len < 0) = n0
  generalize decide (16384 < f.ty.len) = n1
  generalize decide (f.ty.len = 0) = n2
  generalize f.out = o
  cases e0 <;> cases e2 <;> cases l0 <;> cases l1 <;> cases n0 <;> cases n1 <;> cases n2 <;> cases o <;> rfl
def goodB (f : Fd) (a b : Int) : Prop := kindB f = true ∧ f.off = (if f.out then b else a) ∧ f.size = rm f.ty ∧ (if f.out then b else a) + rm f.ty ≤ 65536
theorem t6_step {p : List Fd} {f : Fd} {i : Int} (hi : tidx p i = some f) (x y a b : Int) (hl : i < (p.length : Int)) (h0 : 0 ≤ i) (h1 : i < 1000) (ha : 0 ≤ a) (ha' : a ≤ 65536) (hb : 0 ≤ b) (hb' : b ≤ 65536) :
    (goodB f a b → t6_l10 p (x, y, a, b, i) = some (.n, (x, y, if f.out then a else a + rm f.ty, if f.out then b + rm f.ty else b, i + 1))) ∧
    (¬ goodB f a b → t6_l10 p (x, y, a, b, i) = some (.r, (-1, -1, a, b, i))) := by
  rw [t6_sel hi x y a b hl]
  unfold t6_s5 goodB
  cases hk : kindB f with
  | false => simp
  | true =>
    have hr := rm_b hk
    have e1 : t6_j6 f a b = some (if f.out then b else a) := by unfold t6_j6; cases f.out <;> rfl
    have hat : 0 ≤ (if f.out then b else a) ∧ (if f.out then b else a) ≤ 65536 := by split <;> omega
    have e2 : IntKind.wrap .i64 ((if f.out then b else a) + rm f.ty) = (if f.out then b else a) + rm f.ty := wrap64 (by omega) (by omega)
    have e3 : IntKind.wrap .i64 (i + 1) = i + 1 := wrap64 (by omega) (by omega)
    have e4 : t6_j9 f b (rm f.ty) a = some (if f.out then a else a + rm f.ty, if f.out then b + rm f.ty else b) := by
      unfold t6_j9
      cases ho : f.out <;> simp only [ho, if_true, tc_true, tc_false] at e2 ⊢
      · simp only [Bool.false_eq_true, if_false] at e2 ⊢; rw [e2]
      · rw [e2]
    unfold t6_s7 t6_s8
    simp only [Bool.not_true, tc_false, t17_eq hk, tb_some, hi, e1, e2, e3, e4]
    by_cases c1 : f.off = (if f.out then b else a)
    · by_cases c2 : f.size = rm f.ty
      · by_cases c3 : (if f.out then b else a) + rm f.ty ≤ 65536
        · have c4 : ¬ 65536 < (if f.out then b else a) + rm f.ty := by omega
          refine ⟨fun _ => ?_, fun h => absurd ⟨trivial, c1, c2, c3⟩ h⟩
          rw [← c1] at c4 ⊢
          simp [c2, c4]
        · have c4 : 65536 < (if f.out then b else a) + rm f.ty := by omega
          refine ⟨fun h => absurd h.2.2.2 c3, fun _ => ?_⟩
          rw [← c1] at c4 ⊢
          simp [c2, c4]
      · exact ⟨fun h => absurd h.2.2.1 c2, fun _ => by simp [c1, c2]⟩
    · exact ⟨fun h => absurd h.2.1 c1, fun _ => by simp [c1]⟩
theorem good_next {f : Fd} {a b : Int} (h : goodB f a b) (ha : 0 ≤ a) (ha' : a ≤ 65536) (hb : 0 ≤ b) (hb' : b ≤ 65536) :
    0 ≤ (if f.out then a else a + rm f.ty) ∧ (if f.out then a else a + rm f.ty) ≤ 65536 ∧ 0 ≤ (if f.out then b + rm f.ty else b) ∧ (if f.out then b + rm f.ty else b) ≤ 65536 := by
  have hr := rm_b h.1
  have := h.2.2.2
  cases ho : f.out <;> simp only [ho, if_true, Bool.false_eq_true, if_false] at this ⊢ <;> omega
theorem sizesV_cons (f : Fd) (r : List Fd) (a b : Int) : (goodB f a b → sizesV (f :: r) a b = sizesV r (if f.out then a else a + rm f.ty) (if f.out then b + rm f.ty else b)) ∧ (¬ goodB f a b → sizesV (f :: r) a b = none) := by
  unfold goodB
  constructor
  · intro h; rw [sizesV, if_pos h]
  · intro h; rw [sizesV, if_neg h]
theorem t6_run : ∀ (r p : List Fd) (x y a b : Int), (p ++ r).length ≤ 1000 → 0 ≤ a → a ≤ 65536 → 0 ≤ b → b ≤ 65536 →
    ∃ s, lpT (t6_l10 (p ++ r)) (x, y, a, b, (p.length : Int)) = some s ∧ (match sizesV r a b with | some q => s.1 = .x 0 ∧ s.2.2.2.1 = q.1 ∧ s.2.2.2.2.1 = q.2 | none => s.1 = .r ∧ s.2.1 = -1 ∧ s.2.2.1 = -1)
  | [], p, x, y, a, b, _, _, _, _, _ => by
    refine ⟨(.x 0, (x, y, a, b, (p.length : Int))), lpT_out ?_ (by simp), by simp [sizesV]⟩
    unfold t6_l10
    simp
  | f :: r, p, x, y, a, b, hl, h1, h2, h3, h4 => by
    have hl' : p.length + (r.length + 1) ≤ 1000 := by simpa using hl
    have hs := t6_step (p := p ++ f :: r) (f := f) (i := (p.length : Int)) (tidx_mid rfl) x y a b (by simp; omega) (by omega) (by omega) h1 h2 h3 h4
    have hv := sizesV_cons f r a b
    by_cases hg : goodB f a b
    · rw [lpT_go (hs.1 hg), hv.1 hg]
      obtain ⟨g1, g2, g3, g4⟩ := good_next hg h1 h2 h3 h4
      obtain ⟨s, q1, q2⟩ := t6_run r (p ++ [f]) x y _ _ (by simpa using hl) g1 g2 g3 g4
      exact ⟨s, by simpa using q1, q2⟩
    · rw [hv.2 hg]
      exact ⟨_, lpT_out (hs.2 hg) (by simp), by simp⟩
theorem t6_eq (l : List Fd) (hl : l.length ≤ 1000) : t6 l = some ((sizesV l 0 0).getD (-1, -1)) := by
  obtain ⟨⟨e, x, y, a, b, i⟩, h1, h2⟩ := t6_run l [] 0 0 0 0 (by simpa using hl) (by decide) (by decide) (by decide) (by decide)
  simp only [List.nil_append, List.length_nil] at h1
  rw [show ((0 : Nat) : Int) = 0 from rfl] at h1
  unfold t6
  rw [h1]
  cases hv : sizesV l 0 0 with
  | none =>
    rw [hv] at h2
    obtain ⟨rfl, h3, h4⟩ := h2
    simp only at h3 h4
    subst h3; subst h4
    simp
  | some q =>
    rw [hv] at h2
    obtain ⟨rfl, h3, h4⟩ := h2
    simp only at h3 h4
    subst h3; subst h4
    simp
/-! ### The other way -/
theorem laid_ge : ∀ (l : List Fd) (a b : Int), (∀ f ∈ l, kindB f = true) → a ≤ 65537 → b ≤ 65537 → a ≤ (laidL l a b).2.1 ∧ b ≤ (laidL l a b).2.2
  | [], a, b, _, _, _ => ⟨Int.le_refl _, Int.le_refl _⟩
  | f :: r, a, b, hk, h1, h2 => by
    have hr := rm_b (hk f (.head _))
    have := laid_ge r (if f.out then a else min (a + rm f.ty) 65537) (if f.out then min (b + rm f.ty) 65537 else b) (fun g hg => hk g (.tail _ hg)) (by split <;> omega) (by split <;> omega)
    simp only [laidL]
    cases ho : f.out <;> simp only [ho, if_true, Bool.false_eq_true, if_false] at this ⊢ <;> omega
theorem fd_eq (f : Fd) (o s : Int) : (⟨f.name, f.ty, f.out, o, s⟩ : Fd) = f ↔ f.off = o ∧ f.size = s := by
  obtain ⟨a, b, c, d, e⟩ := f
  simp
  constructor
  · rintro ⟨rfl, rfl⟩; exact ⟨rfl, rfl⟩
  · rintro ⟨rfl, rfl⟩; exact ⟨rfl, rfl⟩
theorem link : ∀ (l : List Fd) (a b : Int), a ≤ 65536 → b ≤ 65536 → 0 ≤ a → 0 ≤ b →
    sizesV l a b = if ((∀ f ∈ l, kindB f = true) ∧ (laidL l a b).1 = l) ∧ (laidL l a b).2.1 ≤ 65536 ∧ (laidL l a b).2.2 ≤ 65536 then some (laidL l a b).2 else none
  | [], a, b, h1, h2, _, _ => by simp [sizesV, laidL, h1, h2]
  | f :: r, a, b, h1, h2, h3, h4 => by
    have hv := sizesV_cons f r a b
    by_cases hg : goodB f a b
    · rw [hv.1 hg]
      obtain ⟨g1, g2, g3, g4⟩ := good_next hg h3 h1 h4 h2
      rw [link r _ _ g2 g4 g1 g3]
      have hr := rm_b hg.1
      have e1 : (if f.out then a else min (a + rm f.ty) 65537) = (if f.out then a else a + rm f.ty) := by
        cases ho : f.out <;> simp only [ho, if_true, Bool.false_eq_true, if_false] at g2 ⊢; omega
      have e2 : (if f.out then min (b + rm f.ty) 65537 else b) = (if f.out then b + rm f.ty else b) := by
        cases ho : f.out <;> simp only [ho, if_true, Bool.false_eq_true, if_false] at g4 ⊢; omega
      have e3 : (⟨f.name, f.ty, f.out, if f.out then b else a, rm f.ty⟩ : Fd) = f := (fd_eq ..).2 ⟨hg.2.1, hg.2.2.1⟩
      simp only [laidL, e1, e2, e3, List.mem_cons, forall_eq_or_imp, hg.1, true_and, List.cons.injEq]
    · rw [hv.2 hg, if_neg]
      rintro ⟨⟨hk, hq⟩, hs1, hs2⟩
      have hr := rm_b (hk f (.head _))
      simp only [laidL, List.cons.injEq] at hq hs1 hs2
      have e3 := (fd_eq ..).1 hq.1
      have hge := laid_ge r (if f.out then a else min (a + rm f.ty) 65537) (if f.out then min (b + rm f.ty) 65537 else b) (fun g hg => hk g (.tail _ hg)) (by split <;> omega) (by split <;> omega)
      refine hg ⟨hk f (.head _), e3.1, e3.2, ?_⟩
      cases ho : f.out <;> simp only [ho, if_true, Bool.false_eq_true, if_false] at hge hs1 hs2 ⊢ <;> omega
theorem t16_v (l : List Fd) (hl : l.length ≤ 1000) : ∃ x y : Int, t16 l = some (match sizesV l 0 0 with | some q => (q.1, q.2, true) | none => (x, y, false)) := by
  rw [t16_eq l hl, link l 0 0 (by decide) (by decide) (by decide) (by decide)]
  by_cases h : (∀ f ∈ l, kindB f = true) ∧ (laidL l 0 0).1 = l
  · rw [if_pos h]
    by_cases h2 : (laidL l 0 0).2.1 ≤ 65536 ∧ (laidL l 0 0).2.2 ≤ 65536
    · rw [if_pos ⟨h, h2⟩]
      exact ⟨0, 0, by simp [h2.1, h2.2]⟩
    · rw [if_neg (fun q => h2 q.2)]
      refine ⟨(laidL l 0 0).2.1, (laidL l 0 0).2.2, ?_⟩
      have : (decide ((laidL l 0 0).2.1 ≤ 65536) && decide ((laidL l 0 0).2.2 ≤ 65536)) = false := by
        simp only [Bool.and_eq_false_iff, decide_eq_false_iff_not]
        by_cases q : (laidL l 0 0).2.1 ≤ 65536
        · exact .inr fun q2 => h2 ⟨q, q2⟩
        · exact .inl q
      rw [this]
  · rw [if_neg h, if_neg (fun q => h q.1)]
    exact ⟨0, 0, rfl⟩
end
section
open Go Hk
def wr (a : Int) : Int := a % 4294967296
def by4 (a : Int) : List UInt8 := [UInt8.ofNat (wr a % 256).toNat, UInt8.ofNat (wr a / 256 % 256).toNat, UInt8.ofNat (wr a / 65536 % 256).toNat, UInt8.ofNat (wr a / 16777216 % 256).toNat]
theorem by4_len (a : Int) : (by4 a).length = 4 := rfl
theorem t54_eq (a : Int) : t54 a = some (wr a) := by
  have h : t54 a = some (tand .i64 a 4294967295) := rfl
  rw [h]
  congr 1
  unfold tand wr
  have e : IntKind.i64.bits = 64 := rfl
  rw [e]
  have h2 : (BitVec.ofInt 64 a &&& BitVec.ofInt 64 4294967295).toNat = (a % 4294967296).toNat := by
    have h3 : (BitVec.ofInt 64 4294967295).toNat = 2 ^ 32 - 1 := by decide
    rw [BitVec.toNat_and, h3, Nat.and_two_pow_sub_one_eq_mod, BitVec.toNat_ofInt]
    omega
  rw [h2, wrap64 (by omega) (by omega)]
  omega
theorem t26_eq (a : Int) : t26 a = some (wr a) := by
  have e : IntKind.wrap .u64 a = a % 18446744073709551616 := rfl
  have e2 : trem (a % 18446744073709551616) 4294967296 = some (wr a) := by
    unfold trem wr
    rw [if_neg (by decide), Int.tmod_eq_emod_of_nonneg (by omega)]
    congr 1
    omega
  unfold t26
  rw [e, e2]
  simp only [tb_some]
  rw [wrap64 (by unfold wr; omega) (by unfold wr; omega)]
theorem ub_eq (a : Int) (n : Nat) : ub (wr a) n = UInt8.ofNat (wr a / 2 ^ n % 256).toNat := by
  unfold ub
  congr 2
  rw [Int.fdiv_eq_ediv_of_nonneg _ (by exact Int.pow_nonneg (by decide))]
  unfold wr
  show (IntKind.wrap .u8 _) = _
  rfl
theorem t37_eq (a : Int) : t37 a = some (by4 a) := by
  unfold t37
  rw [t54_eq]
  simp only [tb_some, ub_eq, by4]
  congr 2
  simp
/-- The bytes of a field's elements, with what is made up. -/
def elS (f : Fd) (vs : List Int) : List UInt8 := vs.flatMap fun v => (by4 v).take (ea f.ty).toNat
def fieldS (f : Fd) (vs : List Int) : List UInt8 := elS f vs ++ List.replicate (f.size - ((elS f vs).length : Int)).toNat 0
theorem elS_len (f : Fd) : ∀ (vs : List Int), ((elS f vs).length : Int) = (vs.length : Int) * ea f.ty
  | [] => by simp [elS]
  | v :: r => by
    have h1 := elS_len f r
    have h2 : elS f (v :: r) = (by4 v).take (ea f.ty).toNat ++ elS f r := rfl
    rw [h2, List.length_append, List.length_take, by4_len]
    rcases ea_b f.ty with e | e <;> rw [e] at h1 ⊢ <;> simp <;> omega
theorem elS_app (f : Fd) (p r : List Int) : elS f (p ++ r) = elS f p ++ elS f r := by simp [elS]
section
variable {f : Fd} {c : List AVal} {u : Bool} {s : List UInt8} {B : Heap}
theorem fd_ld1 : aloadT true 3 (BHX [.cells f.cells] u s s B) (.ptr 0 1) = some (.agg [.int .i64 f.ty.elem, .int .i64 f.ty.len, .int .i64 f.ty.lab]) := (rfl)
theorem fd_ld6 : aloadT false 1 (BHX [.cells f.cells] u s s B) (.ptr 0 6) = some (.int .i64 f.size) := (rfl)
theorem fd_hide : hide (lockIds [0] [.ptr 0 1]) (BHX [.cells c] u s s B) = BHX [.gone] u s s B := (rfl)
theorem fd_hide6 : hide (lockIds [0] [.ptr 0 6]) (BHX [.cells c] u s s B) = BHX [.gone] u s s B := (rfl)
theorem fd_unhide : unhide (lockIds [0] [.ptr 0 1]) (BHX [.cells c] u s s B) (BHX [.gone] u s s B) = BHX [.cells c] u s s B := (rfl)
theorem fd_unhide6 : unhide (lockIds [0] [.ptr 0 6]) (BHX [.cells c] u s s B) (BHX [.gone] u s s B) = BHX [.cells c] u s s B := (rfl)
end
theorem still_gone : Still [.gone] := still_cons (fun _ _ => rfl) still_nil
theorem still_fd (f : Fd) : Still [.cells f.cells] := still_cons (fun m h => by simp [sanBlk]) still_nil
theorem tsub_pre {α : Type} {xs : List α} {n : Int} (h0 : 0 ≤ n) (h1 : n ≤ xs.length) : tsub xs none (some n) = some (xs.take n.toNat) := by
  unfold tsub tbnd
  simp [h0]
  omega
theorem step21 (f : Fd) (vs p r : List Int) (v : Int) (hv : vs = p ++ v :: r) (hl : vs.length ≤ 20000) (u : Bool) (s : List UInt8) (hs : s.length ≤ 200000) :
    m21_l0 KK 3 ([.ptr 0 0, .str [], .ptr 1 0, .slice (Rw (ci .i64) vs) .no, .int .i64 ((vs.length : Nat) : Int), .int .i64 (p.length : Int)], BH [.cells f.cells] u s []) =
    some (.normal, [.ptr 0 0, .str [], .ptr 1 0, .slice (Rw (ci .i64) vs) .no, .int .i64 ((vs.length : Nat) : Int), .int .i64 ((p ++ [v]).length : Int)], BH [.cells f.cells] true (s ++ (by4 v).take (ea f.ty).toNat) []) := by
  have hlen : vs.length = p.length + (r.length + 1) := by subst hv; simp
  have e5 : decide ((p.length : Int) < (vs.length : Int)) = true := by simp; omega
  have e6 : tidx vs (p.length : Int) = some v := by subst hv; exact tidx_mid rfl
  have e4 : IntKind.wrap .i64 ((p.length : Int) + 1) = ((p ++ [v]).length : Int) := by rw [wrap64 (by omega) (by omega)]; simp
  have k37 : ∀ h, KK 37 [.int .i64 v] h = some (.ret (.str (by4 v)), h) := fun h => by rw [r37, t37_eq]; rfl
  have k29 : ∀ h, KK 29 [.agg [.int .i64 f.ty.elem, .int .i64 f.ty.len, .int .i64 f.ty.lab]] h = some (.ret (.int .i64 (ea f.ty)), h) := fun h => by rw [r29, t29_eq]; rfl
  have hea := ea_b f.ty
  have e7 : tsub (by4 v) none (some (ea f.ty)) = some ((by4 v).take (ea f.ty).toNat) := tsub_pre (by omega) (by rw [by4_len]; omega)
  have e8 : afieldAt 1 (.ptr 0 0) = some (.ptr 0 1) := rfl
  have hlt : ((by4 v).take (ea f.ty).toNat).length ≤ 4 := by rw [List.length_take, by4_len]; omega
  have k20 : KK 20 [.ptr 1 0, .str ((by4 v).take (ea f.ty).toNat)] (BHX [.cells f.cells] u s s []) = _ := c20 (A := [.cells f.cells]) (B := []) (u := u) (s := s) (x := (by4 v).take (ea f.ty).toNat) (still_fd f) still_nil (by omega)
  have e9 : aloadT false 1 (BHX [.cells f.cells] u s s []) (.pptr [.int .i64 v]) = some (.int .i64 v) := rfl
  have e5' : decide (p.length < vs.length) = true := by simp; omega
  have e10 : sanBlks 3 (BHX [.cells f.cells] true (s ++ (by4 v).take (ea f.ty).toNat) (s ++ (by4 v).take (ea f.ty).toNat) []) (List.take 3 (BHX [.cells f.cells] true (s ++ (by4 v).take (ea f.ty).toNat) (s ++ (by4 v).take (ea f.ty).toNat) [])) = some (BHX [.cells f.cells] true (s ++ (by4 v).take (ea f.ty).toNat) (s ++ (by4 v).take (ea f.ty).toNat) []) := bh_trunc0 (A := [.cells f.cells]) (B := []) (still_fd f) still_nil
  have s0 : ∀ h, AVal.san1 3 h (.ptr 0 0) = .ptr 0 0 := fun h => san1_ptr (by omega)
  have s1 : ∀ h, AVal.san1 3 h (.ptr 1 0) = .ptr 1 0 := fun h => san1_ptr (by omega)
  simp -implicitDefEqProofs [-Fd.cells_t, -hide, -unhide, -lockIds, -List.length_append, m21_l0, BH, e5, e5', e6, e4, e8, e9, fd_ld1, fd_hide, fd_unhide, k37, k29, e7, k20, e10, s0, s1]
theorem exit21 (f : Fd) (vs : List Int) (u : Bool) (s : List UInt8) :
    m21_l0 KK 3 ([.ptr 0 0, .str [], .ptr 1 0, .slice (Rw (ci .i64) vs) .no, .int .i64 ((vs.length : Nat) : Int), .int .i64 ((vs.length : Nat) : Int)], BH [.cells f.cells] u s []) =
    some (.exit 0, [.ptr 0 0, .str [], .ptr 1 0, .slice (Rw (ci .i64) vs) .no, .int .i64 ((vs.length : Nat) : Int), .int .i64 ((vs.length : Nat) : Int)], BH [.cells f.cells] u s []) := by
  have e10 : sanBlks 3 (BHX [.cells f.cells] u s s []) (List.take 3 (BHX [.cells f.cells] u s s [])) = some (BHX [.cells f.cells] u s s []) := bh_trunc0 (A := [.cells f.cells]) (B := []) (still_fd f) still_nil
  have s0 : ∀ h, AVal.san1 3 h (.ptr 0 0) = .ptr 0 0 := fun h => san1_ptr (by omega)
  have s1 : ∀ h, AVal.san1 3 h (.ptr 1 0) = .ptr 1 0 := fun h => san1_ptr (by omega)
  simp -implicitDefEqProofs [-Fd.cells_t, -hide, -unhide, -lockIds, m21_l0, BH, e10, s0, s1]
theorem run21 (f : Fd) (vs : List Int) (hl : vs.length ≤ 20000) : ∀ (r p : List Int), vs = p ++ r → ∀ (u : Bool) (s : List UInt8), s.length + 4 * r.length ≤ 150000 →
    ∃ u', lpW (m21_l0 KK 3) ([.ptr 0 0, .str [], .ptr 1 0, .slice (Rw (ci .i64) vs) .no, .int .i64 ((vs.length : Nat) : Int), .int .i64 (p.length : Int)], BH [.cells f.cells] u s []) =
      some (.exit 0, [.ptr 0 0, .str [], .ptr 1 0, .slice (Rw (ci .i64) vs) .no, .int .i64 ((vs.length : Nat) : Int), .int .i64 ((vs.length : Nat) : Int)], BH [.cells f.cells] u' (s ++ elS f r) [])
  | [], p, h, u, s, _ => by
    have : vs = p := by simpa using h
    subst this
    refine ⟨u, ?_⟩
    rw [lp_exit (exit21 f vs u s)]
    simp [elS]
  | v :: r, p, h, u, s, hs => by
    have hlt : ((by4 v).take (ea f.ty).toNat).length ≤ 4 := by rw [List.length_take, by4_len]; omega
    rw [lp_go (step21 f vs p r v h hl u s (by simp at hs; omega))]
    obtain ⟨u', e⟩ := run21 f vs hl r (p ++ [v]) (by simpa using h) true (s ++ (by4 v).take (ea f.ty).toNat) (by rw [List.length_append]; simp only [List.length_cons] at hs; omega)
    refine ⟨u', e.trans ?_⟩
    simp [elS]
/-- The bytes of a field. -/
theorem c21 (f : Fd) (vs : List Int) (hl : vs.length ≤ 16384) (hs : f.size ≤ 65536) (hv : (vs.length : Int) * ea f.ty ≤ f.size) (h : Heap) :
    KK 21 [.agg f.cells, .slice (Rw (ci .i64) vs) .no] h = some (.ret (.str (fieldS f vs)), h) := by
  refine callP_pure rfl rfl (evW_by (m21_eq _ _ _ _) ?_)
  have hea := ea_b f.ty
  have hel := elS_len f vs
  obtain ⟨u, e⟩ := run21 f vs (by omega) vs [] rfl false [] (by simp; omega)
  simp only [List.length_nil, List.nil_append] at e
  rw [show ((0 : Nat) : Int) = 0 from rfl] at e
  have e1 : anew 7 [] (.agg f.cells) = some (.ptr 0 0, [.cells f.cells]) := by simp [anew]
  have e2 : anewT 58 2 [.cells f.cells] (.agg [.nilptr, .slice [] .nil]) = some (.ptr 1 0, BHX [.cells f.cells] false [] [] []) := rfl
  have k39 : KK 39 [.ptr 1 0] (BHX [.gone] u (elS f vs) (elS f vs) []) = _ := c39 (A := [.gone]) (B := []) (u := u) (s := elS f vs) still_gone still_nil
  have hrep : (f.size - ((elS f vs).length : Int)).toNat ≤ 65536 := by omega
  have e3 : IntKind.wrap .i64 (f.size - ((elS f vs).length : Int)) = f.size - ((elS f vs).length : Int) := wrap64 (by omega) (by omega)
  have k38 := c38 (f.size - ((elS f vs).length : Int)) (by omega) (BHX [.cells f.cells] u (elS f vs) (elS f vs) [])
  have k20 : KK 20 [.ptr 1 0, .str (List.replicate (f.size - ((elS f vs).length : Int)).toNat 0)] (BHX [.cells f.cells] u (elS f vs) (elS f vs) []) = _ := c20 (A := [.cells f.cells]) (B := []) (u := u) (s := elS f vs) (still_fd f) still_nil (by rw [List.length_replicate]; omega)
  have k22 : KK 22 [.ptr 1 0] (BHX [.cells f.cells] true (fieldS f vs) (fieldS f vs) []) = _ := c22 (A := [.cells f.cells]) (u := true) (s := fieldS f vs) (B := [])
  have e8 : afieldAt 6 (.ptr 0 0) = some (.ptr 0 6) := rfl
  have eb : BH [.cells f.cells] true (elS f vs ++ List.replicate (f.size - ((elS f vs).length : Int)).toNat 0) [] = BHX [.cells f.cells] true (fieldS f vs) (fieldS f vs) [] := rfl
  rw [eb] at k20
  have e7 : (BHX [.cells f.cells] false [] [] []).length = 3 := rfl
  simp only [BH] at e
  generalize (f.size - ((elS f vs).length : Int)).toNat = n at k38 k20
  simp -implicitDefEqProofs [-anew, -Fd.cells_t, -hide, -unhide, -lockIds, -List.length_append, m21, e1, e2, e7, e, e8, fd_ld6, fd_hide6, fd_unhide6, k39, k38, k20, k22, e3, BH]
end
section
open Go Hk
def rowsK : Nat → List Fd → List (List AVal)
  | _, [] => []
  | k, f :: r => [.int .i64 (k : Int), .agg f.cells] :: rowsK (k + 1) r
def sel (o : Bool) : List Fd → List Fd
  | [] => []
  | f :: r => if f.out = o then f :: sel o r else sel o r
theorem fld_rows (o : Bool) : ∀ (l : List Fd) (k : Nat), fldRows o k (Rw Fd.cells l) = some (rowsK k (sel o l))
  | [], _ => rfl
  | f :: r, k => by
    have h1 := fld_rows o r (k + 1)
    have h2 := fld_rows o r k
    have e : Rw Fd.cells (f :: r) = f.cells :: Rw Fd.cells r := rfl
    rw [e]
    by_cases h : f.out = o
    · simp [fldRows, sel, h, h1, rowsK]
    · have hb : (f.out == o) = false := by simpa using h
      simp [fldRows, sel, h, hb, h2]
theorem rowsK_len : ∀ (l : List Fd) (k : Nat), (rowsK k l).all (fun e => e.length == 2) = true
  | [], _ => rfl
  | f :: r, k => by simp only [rowsK, List.all_cons, rowsK_len r]; rfl
theorem aiter_eq {l : List Fd} {o : Bool} {p q : Nat} {h : Heap} (hl : l.length ≤ 1000) (h1 : aload false 1 h (.ptr p 0) = some (.slice (Rw Fd.cells l) .no)) (h2 : aload false 1 h (.ptr q 0) = some (.bool o)) :
    aiter ann 2 (.func 35 [] [.ptr p 0, .ptr q 0]) h = some (fldK, [.ptr p 0, .ptr q 0], rowsK 0 (sel o l)) := by
  have e : ann.itr 35 = some fldK := rfl
  have e2 : fldK.seq [.ptr p 0, .ptr q 0] h = some (rowsK 0 (sel o l)) := by
    simp only [fldK, h1, h2]
    rw [show (Rw Fd.cells l).length = l.length from by simp [Rw], fld_rows]
    rw [show decide (l.length ≤ 4611686018427387904) = true from by simp; omega]
    rfl
  simp only [aiter, e, e2, rowsK_len, cond_true]
theorem c18 (rows : List (List AVal)) (o : Bool) (h : Heap) : KK 18 [.slice rows .no, .bool o] h = some (.ret (.func 35 [] [.ptr h.length 0, .ptr (h.length + 1) 0]), h ++ [.cells [.slice rows .no], .cells [.bool o]]) := by
  refine evW_by (m18_eq _ _ _ _) ?_
  simp [m18]
theorem rfL_cons_n {cap : List AVal} {h0 : Heap} {F : List AVal → Heap → Option R} {e : List AVal} {r : List (List AVal)} {h h' : Heap} {vs : List AVal} (hF : F e h = some (.normal, vs, h')) (hc : ∀ p ∈ cap, aload false 1 h' p = aload false 1 h0 p) :
    rfL cap h0 F (e :: r) h = rfL cap h0 F r h' := by
  rw [rfL, hF]
  simp only [Option.bind_some]
  exact if_pos hc
theorem rfL_cons_r {cap : List AVal} {h0 : Heap} {F : List AVal → Heap → Option R} {e : List AVal} {r : List (List AVal)} {h h' : Heap} {vs : List AVal} (hF : F e h = some (.ret, vs, h')) :
    rfL cap h0 F (e :: r) h = some (.ret, [], h') := by
  rw [rfL, hF]
  rfl
def zC : List AVal := [.str [], .int .i64 0, .int .i64 0, .int .i64 0, .bool false, .int .i64 0, .int .i64 0]
/-! ### Pack -/
def PA (V : List (List AVal)) (e : Int) : Heap := [.cells [.slice V .no], .cells [.str []], .cells [.int .i64 e]]
def PB (n : Int) (L : List (List AVal)) : Heap := [.cells [.int .i64 n], .cells [.slice L .no], .cells [.bool false]]
def HP (V : List (List AVal)) (e : Int) (u : Bool) (s : List UInt8) (n : Int) (L : List (List AVal)) (C : Heap) : Heap := BHX (PA V e) u s s (PB n L ++ C)
theorem still_PA (V : List (List AVal)) (e : Int) : Still (PA V e) := still_cons (fun m h => by simp [sanBlk]) (still_cons (fun m h => by simp [sanBlk]) (still_cons (fun m h => by simp [sanBlk]) still_nil))
theorem still_PB (n : Int) (L : List (List AVal)) : Still (PB n L) := still_cons (fun m h => by simp [sanBlk]) (still_cons (fun m h => by simp [sanBlk]) (still_cons (fun m h => by simp [sanBlk]) still_nil))
theorem still_PBf (n : Int) (L : List (List AVal)) (f : Fd) : Still (PB n L ++ [.cells f.cells]) := fun m h => sanBlks_app0 (still_PB n L m h) (still_fd f m h)
section
variable {V L : List (List AVal)} {e n : Int} {u : Bool} {s : List UInt8} {f : Fd} {C : Heap} {c : List AVal}
theorem hp_len : (HP V e u s n L []).length = 8 := (rfl)
theorem hp_app : HP V e u s n L [] ++ C = HP V e u s n L C := by simp [HP, bh_app]
theorem hp_new : anew 7 (HP V e u s n L []) (.agg [.str [], .int .i64 0, .int .i64 0, .int .i64 0, .bool false, .int .i64 0, .int .i64 0]) = some (.ptr 8 0, HP V e u s n L [.cells zC]) := (rfl)
theorem hp_st : astoreT 7 (HP V e u s n L [.cells zC]) (.ptr 8 0) (.agg f.cells) = some (HP V e u s n L [.cells f.cells]) := (rfl)
theorem hp_l0 : aloadT false 1 (HP V e u s n L [.cells c]) (.ptr 0 0) = some (.slice V .no) := (rfl)
theorem hp_l5 : aloadT false 1 (HP V e u s n L C) (.ptr 5 0) = some (.int .i64 n) := (rfl)
theorem hp_l81 : aloadT true 3 (HP V e u s n L [.cells f.cells]) (.ptr 8 1) = some (.agg [.int .i64 f.ty.elem, .int .i64 f.ty.len, .int .i64 f.ty.lab]) := (rfl)
theorem hp_l8 : aloadT true 7 (HP V e u s n L [.cells f.cells]) (.ptr 8 0) = some (.agg f.cells) := (rfl)
theorem hp_lp {a : AVal} : aloadT false 1 (HP V e u s n L [.cells c]) (.pptr [a]) = some a := (rfl)
theorem hp_s1 : astoreT 1 (HP V e u s n L C) (.ptr 1 0) (.str []) = some (HP V e u s n L C) := (rfl)
theorem hp_s2 {e' : Int} : astoreT 1 (HP V e u s n L C) (.ptr 2 0) (.int .i64 e') = some (HP V e' u s n L C) := (rfl)
theorem hp_s5 {n' : Int} : astoreT 1 (HP V e u s n L C) (.ptr 5 0) (.int .i64 n') = some (HP V e u s n' L C) := (rfl)
theorem hp_hide {a : List AVal} : unhide (lockIds [0, 1] [.ptr 0 0, .pptr a]) (HP V e u s n L [.cells c]) (hide (lockIds [0, 1] [.ptr 0 0, .pptr a]) (HP V e u s n L [.cells c])) = HP V e u s n L [.cells c] := by
  have h1 : lockIds [0, 1] [.ptr 0 0, .pptr a] = [0] := rfl
  rw [h1]
  simp [hide, unhide, hide1, unhide1, HP, BHX, PA]
theorem hp_end : sanBlks 8 (HP V e u s n L [.cells f.cells]) (List.take 8 (HP V e u s n L [.cells f.cells])) = some (HP V e u s n L []) := bh_trunc (A := PA V e) (B := PB n L) (C := [.cells f.cells]) (still_PA V e) (still_PB n L)
theorem hp_20 {x : List UInt8} (hb : s.length + x.length ≤ 140737488355328) : KK 20 [.ptr 3 0, .str x] (HP V e u s n L [.cells f.cells]) = some (.ret (.tuple [.int .i64 (x.length : Int), .niliface]), HP V e true (s ++ x) n L [.cells f.cells]) := by
  have h := c20 (A := PA V e) (B := PB n L ++ [.cells f.cells]) (u := u) (s := s) (x := x) (still_PA V e) (still_PBf n L f) hb
  have e1 : (PA V e).length = 3 := rfl
  rw [e1] at h
  simp only [BH] at h
  simp only [HP]
  exact h
end
end
noncomputable section
open Go Hk
def f7 (K : CallO) (t0 : AVal) (t2 : AVal) (t4 : AVal) (t14 : AVal) (t16 : AVal) (h20 : Heap) (e22 : List AVal) (h23 : Heap) : Option R :=
  bindVH (anew 7 h23 (.agg [(.str []), (iq 0), (iq 0), (iq 0), (.bool false), (iq 0), (iq 0)])) fun t27 h28 => (astoreT 7 h28 t27 (List.getD e22 1 .junk)).bind fun h29 => (aloadT false 1 h29 t0).bind fun t30 => (alenSl t30).bind fun t31 => (abin .geq (List.getD e22 0 .junk) t31).bind fun t32 => gpq false t32 (aloadT false 1 h29 t0) h29 fun t34 h35 => gq false t32 (kv0 (List.getD e22 0 .junk) h35) h35 fun t36 h37 => gpq false t32 (aindexSl 1 t34 t36) h37 fun t39 h40 => gpq false t32 (aloadT false 1 h40 t39) h40 fun t42 h43 => gpq false t32 (alenSl t42) h43 fun t45 h46 => gpq false t32 (afieldAt 1 t27) h46 fun t48 h49 => gpq false t32 (aloadT true 3 h49 t48) h49 fun t51 h52 => gq false t32 (bindRes (uk1 K 19 t51 (hide (lockIds [0, 1] [t0, t39]) h52)) (fun t53 h54 => kv0 t53 (unhide (lockIds [0, 1] [t0, t39]) h52 h54)) (fun v h' => kp0 v (unhide (lockIds [0, 1] [t0, t39]) h52 h'))) h52 fun t55 h56 => gpq false t32 (abin .neq t45 t55) h56 fun t58 h59 => (apick t32 (.bool true) t58).bind fun t60 => acond t60 ((astoreT 1 h59 t2 (.str [])).bind fun h61 => (astoreT 1 h61 t4 (iq 16)).bind fun h62 => endR (List.length h20) .ret [] h62) ((aloadT true 7 h59 t27).bind fun t63 => (aloadT false 1 h59 t0).bind fun t64 => (aindexSl 1 t64 (List.getD e22 0 .junk)).bind fun t65 => (aloadT false 1 h59 t65).bind fun t66 => kq2 K 21 t63 t66 h59 fun t67 h68 => kq2 K 20 t14 t67 h68 fun t69 h70 => (aloadT false 1 h70 t16).bind fun t71 => (abin .add t71 (iq 1)).bind fun t72 => (astoreT 1 h70 t16 t72).bind fun h73 => endR (List.length h20) .normal [] h73)
def n7 (K : CallO) (a0 a1 : AVal) (h0 : Heap) : OH :=
  (bindVH (anew 1 h0 a1) fun t0 h1 => bindVH (anew 1 h1 (.str [])) fun t2 h3 => bindVH (anew 1 h3 (iq 0)) fun t4 h5 => kq1 K 16 a0 h5 fun t6 h7 => (aextract 0 t6).bind fun t8 => (aextract 1 t6).bind fun t9 => (aextract 2 t6).bind fun t10 => (aun .not t10).bind fun t11 => acond t11 ((astoreT 1 h7 t2 (.str [])).bind fun h12 => (astoreT 1 h12 t4 (iq 2)).bind fun h13 => some (.ret, [t2, t4], h13)) (bindVH (anewT 58 2 h7 (.agg [.nilptr, (.slice [] .nil)])) fun t14 h15 => bindVH (anew 1 h15 (iq 0)) fun t16 h17 => (astoreT 1 h17 t16 (iq 0)).bind fun h18 => kq2 K 18 a0 (.bool false) h18 fun t19 h20 => (aiter ann 2 t19 h20).bind fun x21 => (rfL x21.2.1 h20 (f7 K t0 t2 t4 t14 t16 h20) x21.2.2 h20).bind fun s24 => (fun (h26 : Heap) => Ex.thenDo s24.1 ((aloadT false 1 h26 t16).bind fun t74 => (aloadT false 1 h26 t0).bind fun t75 => (alenSl t75).bind fun t76 => aq .neq t74 t76 ((astoreT 1 h26 t2 (.str [])).bind fun h78 => (astoreT 1 h78 t4 (iq 16)).bind fun h79 => some (.ret, [t2, t4], h79)) (kq1 K 22 t14 h26 fun t80 h81 => (astoreT 1 h81 t2 t80).bind fun h82 => (astoreT 1 h82 t4 (iq 0)).bind fun h83 => some (.ret, [t2, t4], h83))) (fun e25 => Ex.inBlock 0 e25 ((aloadT false 1 h26 t16).bind fun t85 => (aloadT false 1 h26 t0).bind fun t86 => (alenSl t86).bind fun t87 => aq .neq t85 t87 ((astoreT 1 h26 t2 (.str [])).bind fun h89 => (astoreT 1 h89 t4 (iq 16)).bind fun h90 => some (.ret, [t2, t4], h90)) (kq1 K 22 t14 h26 fun t91 h92 => (astoreT 1 h92 t2 t91).bind fun h93 => (astoreT 1 h93 t4 (iq 0)).bind fun h94 => some (.ret, [t2, t4], h94))) (fun e84 => some (e84, [t2, t4], h26)))) s24.2.2)).bind fun r95 => uq2 r95.2 fun x4v96 x5v97 h98 => Ex.endF r95.1 ((aload false 1 h98 x4v96).bind fun t99 => (aload false 1 h98 x5v97).bind fun t100 => finR (List.length h0) (.tuple [t99, t100]) h98)
theorem m7_f K a0 a1 h0 : m7 K a0 a1 h0 = n7 K a0 a1 h0 := rfl
def f9 (K : CallO) (t24 : AVal) (t0 : AVal) (h27 : Heap) (e29 : List AVal) (h30 : Heap) : Option R :=
  bindVH (anew 7 h30 (.agg [(.str []), (iq 0), (iq 0), (iq 0), (.bool false), (iq 0), (iq 0)])) fun t34 h35 => (astore 7 h35 t34 (List.getD e29 1 .junk)).bind fun h36 => (aload false 1 h36 t24).bind fun t37 => (aload true 7 h36 t34).bind fun t38 => (aload false 1 h36 t0).bind fun t39 => kq2 K 27 t38 t39 (hide (lockIds [0] [t24]) h36) fun t40 h41 => bindVH (abuildSlice 1 1 [(.slice [] .nil)] [(0, t40)] (hide (lockIds [0] [t24]) (unhide (lockIds [0] [t24]) h36 h41))) fun t42 h43 => bindVH (aappend 1 24 (unhide (lockIds [0] [t24]) (unhide (lockIds [0] [t24]) h36 h41) h43) t37 t42) fun t44 h45 => (astore 1 h45 t24 t44).bind fun h46 => endR (List.length h27) .normal [] h46
def n9 (K : CallO) (a0 a1 : AVal) (h0 : Heap) : OH :=
  (bindVH (anew 1 h0 a1) fun t0 h1 => (fun (t3 : AVal) (h2 : Heap) => kq1 K 16 a0 h2 fun t4 h5 => (aextract 0 t4).bind fun t6 => (aextract 1 t4).bind fun t7 => (aextract 2 t4).bind fun t8 => (aun .not t8).bind fun t9 => gpq false t9 (aload false 1 h5 t0) h5 fun t11 h12 => gpq false t9 (alenStr t11) h12 fun t14 h15 => gpq false t9 (some t7) h15 fun t16 h17 => gpq false t9 (abin .neq t14 t16) h17 fun t19 h20 => (apick t9 (.bool true) t19).bind fun t21 => acond t21 ((fun (t23 : AVal) (h22 : Heap) => some (.ret, [t23, (iq 2)], h22)) (.slice [] (.own (List.length h20))) (h20 ++ [.front 0 0])) (bindVH (anew 1 h20 (.slice [] .nil)) fun t24 h25 => kq2 K 18 a0 (.bool true) h25 fun t26 h27 => (aiter ann 2 t26 h27).bind fun x28 => (rfL x28.2.1 h27 (f9 K t24 t0 h27) x28.2.2 h27).bind fun s31 => (fun (h33 : Heap) => Ex.thenDo s31.1 ((aload false 1 h33 t24).bind fun t47 => some (.ret, [t47, (iq 0)], h33)) (fun e32 => Ex.inBlock 0 e32 ((aload false 1 h33 t24).bind fun t49 => some (.ret, [t49, (iq 0)], h33)) (fun e48 => some (e48, [t3, (iq 0)], h33)))) s31.2.2)) (.slice [] (.own (List.length h1))) (h1 ++ [.front 0 0])).bind fun r50 => uq2 r50.2 fun x4v51 x5v52 h53 => Ex.endF r50.1 (finR (List.length h0) (.tuple [x4v51, x5v52]) h53)
theorem m9_f K a0 a1 h0 : m9 K a0 a1 h0 = n9 K a0 a1 h0 := rfl
def f12 (K : CallO) (t0 : AVal) (t2 : AVal) (t4 : AVal) (h38 : Heap) (e40 : List AVal) (h41 : Heap) : Option R :=
  bindVH (anew 7 h41 (.agg [(.str []), (iq 0), (iq 0), (iq 0), (.bool false), (iq 0), (iq 0)])) fun t45 h46 => (astore 7 h46 t45 (List.getD e40 1 .junk)).bind fun h47 => (afieldAt 5 t45).bind fun t48 => (aload false 1 h47 t48).bind fun t49 => (afieldAt 1 t45).bind fun t50 => (aload true 3 h47 t50).bind fun t51 => (afieldAt 1 t45).bind fun t52 => (aload true 3 h47 t52).bind fun t53 => kq1 K 19 t51 (hide (lockIds [0, 1] [t48, t52]) h47) fun t54 h55 => kq1 K 29 t53 (hide (lockIds [0] [t48]) (unhide (lockIds [0, 1] [t48, t52]) h47 h55)) fun t56 h57 => (abin .mul t54 t56).bind fun t58 => (abin .add t49 t58).bind fun t59 => (afieldAt 1 t45).bind fun t60 => (afieldAt 2 t60).bind fun t61 => (aload false 1 (unhide (lockIds [0] [t48]) (unhide (lockIds [0, 1] [t48, t52]) h47 h55) h57) t61).bind fun t62 => (abin .eql t62 (iq 0)).bind fun t63 => gq true t63 ((aload false 1 (unhide (lockIds [0] [t48]) (unhide (lockIds [0, 1] [t48, t52]) h47 h55) h57) t0).bind fun t64 => kv0 t64 (unhide (lockIds [0] [t48]) (unhide (lockIds [0, 1] [t48, t52]) h47 h55) h57)) (unhide (lockIds [0] [t48]) (unhide (lockIds [0, 1] [t48, t52]) h47 h55) h57) fun t65 h66 => gpq true t63 (afieldAt 5 t45) h66 fun t68 h69 => gpq true t63 (aload false 1 h69 t68) h69 fun t71 h72 => gpq true t63 (some t59) h72 fun t73 h74 => gpq true t63 (asliceStr t65 (some t71) (some t73)) h74 fun t76 h77 => gpq true t63 (aload false 1 h77 t2) h77 fun t79 h80 => gpq true t63 (afieldAt 5 t45) h80 fun t82 h83 => gpq true t63 (aload false 1 h83 t82) h83 fun t85 h86 => gpq true t63 (some t59) h86 fun t87 h88 => gpq true t63 (asliceStr t79 (some t85) (some t87)) h88 fun t90 h91 => gpq true t63 (abin .neq t76 t90) h91 fun t93 h94 => (apick t63 t93 (.bool false)).bind fun t95 => acond t95 ((astore 1 h94 t4 (.bool false)).bind fun h96 => endR (List.length h38) .ret [] h96) (endR (List.length h38) .normal [] h94)
def n12 (K : CallO) (a0 a1 a2 : AVal) (h0 : Heap) : OH :=
  (bindVH (anew 1 h0 a1) fun t0 h1 => bindVH (anew 1 h1 a2) fun t2 h3 => bindVH (anew 1 h3 (.bool false)) fun t4 h5 => kq1 K 16 a0 h5 fun t6 h7 => (aextract 0 t6).bind fun t8 => (aextract 1 t6).bind fun t9 => (aextract 2 t6).bind fun t10 => (aun .not t10).bind fun t11 => gpq false t11 (aload false 1 h7 t0) h7 fun t13 h14 => gpq false t11 (alenStr t13) h14 fun t16 h17 => gpq false t11 (some t8) h17 fun t18 h19 => gpq false t11 (abin .neq t16 t18) h19 fun t21 h22 => (apick t11 (.bool true) t21).bind fun t23 => gpq false t23 (aload false 1 h22 t2) h22 fun t25 h26 => gpq false t23 (alenStr t25) h26 fun t28 h29 => gpq false t23 (some t8) h29 fun t30 h31 => gpq false t23 (abin .neq t28 t30) h31 fun t33 h34 => (apick t23 (.bool true) t33).bind fun t35 => acond t35 ((astore 1 h34 t4 (.bool false)).bind fun h36 => some (.ret, [t4], h36)) (kq2 K 18 a0 (.bool false) h34 fun t37 h38 => (aiter ann 2 t37 h38).bind fun x39 => (rfL x39.2.1 h38 (f12 K t0 t2 t4 h38) x39.2.2 h38).bind fun s42 => (fun (h44 : Heap) => Ex.thenDo s42.1 ((astore 1 h44 t4 (.bool true)).bind fun h97 => some (.ret, [t4], h97)) (fun e43 => Ex.inBlock 0 e43 ((astore 1 h44 t4 (.bool true)).bind fun h99 => some (.ret, [t4], h99)) (fun e98 => some (e98, [t4], h44)))) s42.2.2)).bind fun r100 => uq1 r100.2 fun x6v101 h102 => Ex.endF r100.1 ((aload false 1 h102 x6v101).bind fun t103 => finR (List.length h0) t103 h102)
theorem m12_f K a0 a1 a2 h0 : m12 K a0 a1 a2 h0 = n12 K a0 a1 a2 h0 := rfl
end
section
open Go Hk
def VV (vals : List (List Int)) : List (List AVal) := Rw (csl (ci .i64)) vals
theorem untokC (f : Fd) : List.map AVal.untok1 f.cells = f.cells := rfl
theorem fieldS_len (f : Fd) (v : List Int) (hz : (v.length : Int) * ea f.ty ≤ f.size) : ((fieldS f v).length : Int) = f.size := by
  have := elS_len f v
  unfold fieldS
  rw [List.length_append, List.length_replicate]
  omega
section
variable {vals : List (List Int)} {L : List (List AVal)} {e n : Int} {u : Bool} {s : List UInt8} {f : Fd} {k : Nat} {h20 : Heap}
theorem pk_good {v : List Int} (h8 : h20.length = 8) (hv : vals[k]? = some v) (hn : (v.length : Int) = mn f.ty) (hk : k < vals.length) (hm : v.length ≤ 16384) (hs : f.size ≤ 65536) (hz : (v.length : Int) * ea f.ty ≤ f.size)
    (hb : s.length + (fieldS f v).length ≤ 140737488355328) (hnn : 0 ≤ n) (hn2 : n ≤ 1000) :
    f7 KK (.ptr 0 0) (.ptr 1 0) (.ptr 2 0) (.ptr 3 0) (.ptr 5 0) h20 [.int .i64 (k : Int), .agg f.cells] (HP (VV vals) e u s n L []) = some (.normal, [], HP (VV vals) e true (s ++ fieldS f v) (n + 1) L []) := by
  have e1 : tidx vals (k : Int) = some v := by unfold tidx; rw [if_pos (by omega)]; simpa using hv
  have e2 : ∀ T, alenSl (.slice (VV vals) T) = some (.int .i64 (vals.length : Int)) := fun T => alenSl_t
  have e3 : ∀ T, aindexSl 1 (.slice (VV vals) T) (.int .i64 (k : Int)) = some (.pptr (csl (ci .i64) v)) := fun T => by unfold VV; rw [aindexSl_t (by intro x; rfl), e1]; rfl
  have e4 : decide ((vals.length : Int) ≤ (k : Int)) = false := by simp; omega
  have e4' : decide (vals.length ≤ k) = false := by simp; omega
  have k19 : ∀ h, KK 19 [.agg [.int .i64 f.ty.elem, .int .i64 f.ty.len, .int .i64 f.ty.lab]] h = some (.ret (.int .i64 (mn f.ty)), h) := fun h => by rw [r19, t19_eq]; rfl
  have k21 := c21 f v hm hs hz
  have e5 : IntKind.wrap .i64 (n + 1) = n + 1 := wrap64 (by omega) (by omega)
  have e6 : alenSl (.slice (Rw (ci .i64) v) .no) = some (.int .i64 (v.length : Int)) := alenSl_t
  have e7 : decide ((v.length : Int) = mn f.ty) = true := by simp [hn]
  have e8 : afieldAt 1 (.ptr 8 0) = some (.ptr 8 1) := rfl
  unfold f7
  simp -implicitDefEqProofs [-anew, -Fd.cells_t, -hide, -unhide, -lockIds, -List.length_append, hp_new, hp_st, hp_l0, hp_l5, hp_l81, hp_l8, hp_lp, hp_s1, hp_s2, hp_s5, hp_hide, hp_20 hb, hp_end, h8, e2, e3, e4, e4', k19, k21, e5, e6, e7, e8, untokC]
theorem pk_bad1 (h8 : h20.length = 8) (hk : vals.length ≤ k) :
    f7 KK (.ptr 0 0) (.ptr 1 0) (.ptr 2 0) (.ptr 3 0) (.ptr 5 0) h20 [.int .i64 (k : Int), .agg f.cells] (HP (VV vals) e u s n L []) = some (.ret, [], HP (VV vals) 16 u s n L []) := by
  have e2 : ∀ T, alenSl (.slice (VV vals) T) = some (.int .i64 (vals.length : Int)) := fun T => alenSl_t
  have e4 : decide ((vals.length : Int) ≤ (k : Int)) = true := by simp; omega
  have e4' : decide (vals.length ≤ k) = true := by simp; omega
  have e8 : afieldAt 1 (.ptr 8 0) = some (.ptr 8 1) := rfl
  unfold f7
  simp -implicitDefEqProofs [-anew, -Fd.cells_t, -hide, -unhide, -lockIds, -List.length_append, hp_new, hp_st, hp_l0, hp_l5, hp_l81, hp_l8, hp_lp, hp_s1, hp_s2, hp_s5, hp_hide, hp_end, h8, e2, e4, e4', e8, untokC]
theorem pk_bad2 {v : List Int} (h8 : h20.length = 8) (hv : vals[k]? = some v) (hn : ¬ (v.length : Int) = mn f.ty) (hk : k < vals.length) :
    f7 KK (.ptr 0 0) (.ptr 1 0) (.ptr 2 0) (.ptr 3 0) (.ptr 5 0) h20 [.int .i64 (k : Int), .agg f.cells] (HP (VV vals) e u s n L []) = some (.ret, [], HP (VV vals) 16 u s n L []) := by
  have e1 : tidx vals (k : Int) = some v := by unfold tidx; rw [if_pos (by omega)]; simpa using hv
  have e2 : ∀ T, alenSl (.slice (VV vals) T) = some (.int .i64 (vals.length : Int)) := fun T => alenSl_t
  have e3 : ∀ T, aindexSl 1 (.slice (VV vals) T) (.int .i64 (k : Int)) = some (.pptr (csl (ci .i64) v)) := fun T => by unfold VV; rw [aindexSl_t (by intro x; rfl), e1]; rfl
  have e4 : decide ((vals.length : Int) ≤ (k : Int)) = false := by simp; omega
  have e4' : decide (vals.length ≤ k) = false := by simp; omega
  have k19 : ∀ h, KK 19 [.agg [.int .i64 f.ty.elem, .int .i64 f.ty.len, .int .i64 f.ty.lab]] h = some (.ret (.int .i64 (mn f.ty)), h) := fun h => by rw [r19, t19_eq]; rfl
  have e6 : alenSl (.slice (Rw (ci .i64) v) .no) = some (.int .i64 (v.length : Int)) := alenSl_t
  have e7 : decide ((v.length : Int) = mn f.ty) = false := by simp [hn]
  have e8 : afieldAt 1 (.ptr 8 0) = some (.ptr 8 1) := rfl
  unfold f7
  simp -implicitDefEqProofs [-anew, -Fd.cells_t, -hide, -unhide, -lockIds, -List.length_append, hp_new, hp_st, hp_l0, hp_l5, hp_l81, hp_l8, hp_lp, hp_s1, hp_s2, hp_s5, hp_hide, hp_end, h8, e2, e3, e4, e4', k19, e6, e7, e8, untokC]
end
/-- What Pack writes; none: too few values, or of other lengths. -/
def goF : List Fd → List (List Int) → Option (List UInt8)
  | [], _ => some []
  | _ :: _, [] => none
  | f :: r, v :: vs => if (v.length : Int) = mn f.ty then (goF r vs).map (fieldS f v ++ ·) else none
def fOk (f : Fd) : Prop := kindB f = true ∧ f.size = rm f.ty
theorem pk_run (vals : List (List Int)) (L : List (List AVal)) (h20 : Heap) (h8 : h20.length = 8) (hc : ∀ e u s n, ∀ p ∈ [AVal.ptr 6 0, AVal.ptr 7 0], aload false 1 (HP (VV vals) e u s n L []) p = aload false 1 h20 p) :
    ∀ (fs : List Fd) (k : Nat) (u : Bool) (s : List UInt8), (∀ f ∈ fs, fOk f) → k + fs.length ≤ 1000 → s.length ≤ k * 65536 →
    ∃ (ex : Ex) (h : Heap), rfL [.ptr 6 0, .ptr 7 0] h20 (f7 KK (.ptr 0 0) (.ptr 1 0) (.ptr 2 0) (.ptr 3 0) (.ptr 5 0) h20) (rowsK k fs) (HP (VV vals) 0 u s (k : Int) L []) = some (ex, [], h) ∧
      (match goF fs (vals.drop k) with
      | some S => ∃ u', ex = .normal ∧ h = HP (VV vals) 0 u' (s ++ S) ((k + fs.length : Nat) : Int) L []
      | none => ∃ u' s' n', ex = .ret ∧ h = HP (VV vals) 16 u' s' n' L [])
  | [], k, u, s, _, _, _ => ⟨.normal, _, rfl, by rw [goF]; exact ⟨u, rfl, by simp⟩⟩
  | f :: r, k, u, s, hf, hk, hs => by
    have hf1 := hf f (.head _)
    have hr := rm_b hf1.1
    have hmn := mn_b hf1.1
    simp only [List.length_cons] at hk
    by_cases hkv : k < vals.length
    · have hd : vals.drop k = vals[k] :: vals.drop (k + 1) := List.drop_eq_getElem_cons hkv
      have hv : vals[k]? = some vals[k] := List.getElem?_eq_getElem hkv
      rw [hd]
      by_cases hn : ((vals[k]).length : Int) = mn f.ty
      · have hz : ((vals[k]).length : Int) * ea f.ty ≤ f.size := by rw [hn, hf1.2]; exact hr.2.2.1
        have hl := fieldS_len f vals[k] hz
        have hsz : f.size ≤ 65536 := by rw [hf1.2]; exact hr.2.1
        have hg := pk_good (vals := vals) (L := L) (e := 0) (n := (k : Int)) (u := u) (s := s) (f := f) (k := k) h8 hv hn hkv (by omega) hsz hz (by omega) (by omega) (by omega)
        rw [rowsK, rfL_cons_n hg (fun p hp => hc _ _ _ _ p hp)]
        obtain ⟨ex, h, h1, h2⟩ := pk_run vals L h20 h8 hc r (k + 1) true (s ++ fieldS f vals[k]) (fun g hg => hf g (.tail _ hg)) (by omega) (by rw [List.length_append]; omega)
        refine ⟨ex, h, h1, ?_⟩
        rw [goF, if_pos hn]
        cases hgo : goF r (vals.drop (k + 1)) with
        | none => rw [hgo] at h2; simpa using h2
        | some S =>
          rw [hgo] at h2
          obtain ⟨u', rfl, rfl⟩ := h2
          refine ⟨u', rfl, ?_⟩
          simp only [List.append_assoc, List.length_cons]
          congr 2
          omega
      · rw [rowsK, rfL_cons_r (pk_bad2 h8 hv hn hkv), goF, if_neg hn]
        exact ⟨_, _, rfl, _, _, _, rfl, rfl⟩
    · have hd : vals.drop k = [] := List.drop_eq_nil_of_le (by omega)
      rw [hd, rowsK, rfL_cons_r (pk_bad1 h8 (by omega)), goF]
      exact ⟨_, _, rfl, _, _, _, rfl, rfl⟩
theorem sizesV_ok : ∀ (l : List Fd) (a b : Int) (q : Int × Int), sizesV l a b = some q → ∀ f ∈ l, fOk f
  | [], _, _, _, _ => by simp
  | f :: r, a, b, q, h => by
    have hv := sizesV_cons f r a b
    by_cases hg : goodB f a b
    · rw [hv.1 hg] at h
      intro g hm
      cases hm with
      | head => exact ⟨hg.1, hg.2.2.1⟩
      | tail _ hm => exact sizesV_ok r _ _ q h g hm
    · rw [hv.2 hg] at h; cases h
theorem sel_mem {o : Bool} {f : Fd} : ∀ {l : List Fd}, f ∈ sel o l → f ∈ l ∧ f.out = o
  | g :: r, h => by
    unfold sel at h
    split at h
    · rename_i hg
      cases h with
      | head => exact ⟨.head _, hg⟩
      | tail _ h => exact ⟨.tail _ (sel_mem h).1, (sel_mem h).2⟩
    · exact ⟨.tail _ (sel_mem h).1, (sel_mem h).2⟩
theorem sel_len {o : Bool} : ∀ {l : List Fd}, (sel o l).length ≤ l.length
  | [] => Nat.le_refl _
  | g :: r => by
    have := sel_len (o := o) (l := r)
    unfold sel
    split <;> simp <;> omega
/-- Pack's answer. -/
def packR (l : List Fd) (vals : List (List Int)) : List UInt8 × Int := match sizesV l 0 0 with
  | none => ([], 2)
  | some _ => match goF (sel false l) vals with
    | some S => if (sel false l).length = vals.length then (S, 0) else ([], 16)
    | none => ([], 16)
def PAs (V : List (List AVal)) (t : List UInt8) (e : Int) : Heap := [.cells [.slice V .no], .cells [.str t], .cells [.int .i64 e]]
section
variable {V L : List (List AVal)} {e e' n : Int} {u : Bool} {s t : List UInt8}
theorem hp_22 : KK 22 [.ptr 3 0] (HP V e u s n L []) = some (.ret (.str s), BHg (PAs V [] e) u s (PB n L)) := by
  have h := c22 (A := PA V e) (u := u) (s := s) (B := PB n L)
  have e1 : (PA V e).length = 3 := rfl
  rw [e1] at h
  simp only [HP, List.append_nil]
  exact h
theorem bg_s1 : astoreT 1 (BHg (PAs V [] e) u s (PB n L)) (.ptr 1 0) (.str t) = some (BHg (PAs V t e) u s (PB n L)) := by cases s <;> rfl
theorem bg_s2 : astoreT 1 (BHg (PAs V t e) u s (PB n L)) (.ptr 2 0) (.int .i64 e') = some (BHg (PAs V t e') u s (PB n L)) := by cases s <;> rfl
theorem bg_l1 : getBlk (BHg (PAs V t e) u s (PB n L)) 1 = some [.str t] := by cases s <;> rfl
theorem bg_l2 : getBlk (BHg (PAs V t e) u s (PB n L)) 2 = some [.int .i64 e] := by cases s <;> rfl
theorem hp_l00 : aloadT false 1 (HP V e u s n L []) (.ptr 0 0) = some (.slice V .no) := (rfl)
end
theorem c7 (l : List Fd) (vals : List (List Int)) (hl : l.length ≤ 1000) (h : Heap) :
    KK 7 [.slice (Rw Fd.cells l) .no, .slice (VV vals) .no] h = some (.ret (.tuple [.str (packR l vals).1, .int .i64 (packR l vals).2]), h) := by
  refine callP_pure rfl rfl (evW_by (m7_eq _ _ _ _) ?_)
  rw [m7_f]
  obtain ⟨x, y, ht⟩ := t16_v l hl
  have a1 : anew 1 [] (.slice (VV vals) .no) = some (.ptr 0 0, [.cells [.slice (VV vals) .no]]) := by simp
  have a2 : anew 1 [.cells [.slice (VV vals) .no]] (.str []) = some (.ptr 1 0, [.cells [.slice (VV vals) .no], .cells [.str []]]) := rfl
  have a3 : anew 1 [.cells [.slice (VV vals) .no], .cells [.str []]] (.int .i64 0) = some (.ptr 2 0, PA (VV vals) 0) := rfl
  have q1 : ∀ e, astoreT 1 (PA (VV vals) e) (.ptr 1 0) (.str []) = some (PA (VV vals) e) := fun _ => rfl
  have q2 : ∀ e e', astoreT 1 (PA (VV vals) e) (.ptr 2 0) (.int .i64 e') = some (PA (VV vals) e') := fun _ _ => rfl
  have q3 : ∀ e, aload false 1 (PA (VV vals) e) (.ptr 1 0) = some (.str []) := fun _ => rfl
  have q4 : ∀ e, aload false 1 (PA (VV vals) e) (.ptr 2 0) = some (.int .i64 e) := fun _ => rfl
  unfold packR
  cases hv : sizesV l 0 0 with
  | none =>
    rw [hv] at ht
    have k16 : ∀ h, KK 16 [.slice (Rw Fd.cells l) .no] h = some (.ret (.tuple [.int .i64 x, .int .i64 y, .bool false]), h) := fun h => by rw [r16, ht]; rfl
    simp -implicitDefEqProofs [-anew, -Fd.cells_t, -hide, -unhide, -lockIds, n7, a1, a2, a3, k16, q1, q2, q3, q4]
  | some q =>
    rw [hv] at ht
    have k16 : ∀ h, KK 16 [.slice (Rw Fd.cells l) .no] h = some (.ret (.tuple [.int .i64 q.1, .int .i64 q.2, .bool true]), h) := fun h => by rw [r16, ht]; rfl
    have b1 : anewT 58 2 (PA (VV vals) 0) (.agg [.nilptr, .slice [] .nil]) = some (.ptr 3 0, BHX (PA (VV vals) 0) false [] [] []) := rfl
    have b2 : anew 1 (BHX (PA (VV vals) 0) false [] [] []) (.int .i64 0) = some (.ptr 5 0, BHX (PA (VV vals) 0) false [] [] [.cells [.int .i64 0]]) := rfl
    have b3 : astoreT 1 (BHX (PA (VV vals) 0) false [] [] [.cells [.int .i64 0]]) (.ptr 5 0) (.int .i64 0) = some (BHX (PA (VV vals) 0) false [] [] [.cells [.int .i64 0]]) := rfl
    have k18 : KK 18 [.slice (Rw Fd.cells l) .no, .bool false] (BHX (PA (VV vals) 0) false [] [] [.cells [.int .i64 0]]) = some (.ret (.func 35 [] [.ptr 6 0, .ptr 7 0]), HP (VV vals) 0 false [] 0 (Rw Fd.cells l) []) := (c18 _ _ _).trans (by rw [bh_app]; rfl)
    have ha := aiter_eq (l := l) (o := false) (p := 6) (q := 7) (h := HP (VV vals) 0 false [] 0 (Rw Fd.cells l) []) hl rfl rfl
    have hsl := sel_len (o := false) (l := l)
    obtain ⟨ex, hp, h1, h2⟩ := pk_run vals (Rw Fd.cells l) (HP (VV vals) 0 false [] 0 (Rw Fd.cells l) []) rfl (fun e u s n p hp => by
      simp only [List.mem_cons, List.not_mem_nil, or_false] at hp
      rcases hp with rfl | rfl <;> rfl) (sel false l) 0 false [] (fun f hf => sizesV_ok l 0 0 q hv f (sel_mem hf).1) (by omega) (by simp)
    rw [show ((0 : Nat) : Int) = 0 from rfl] at h1
    simp only [List.drop_zero, List.nil_append] at h2
    have w1 : ∀ e u s n L, aload false 1 (HP (VV vals) e u s n L []) (.ptr 1 0) = some (.str []) := fun _ _ _ _ _ => rfl
    have w2 : ∀ e u s n L, aload false 1 (HP (VV vals) e u s n L []) (.ptr 2 0) = some (.int .i64 e) := fun _ _ _ _ _ => rfl
    cases hgo : goF (sel false l) vals with
    | none =>
      rw [hgo] at h2
      obtain ⟨u', s', n', rfl, rfl⟩ := h2
      simp -implicitDefEqProofs [-anew, -Fd.cells_t, -hide, -unhide, -lockIds, n7, a1, a2, a3, k16, q1, q2, q3, q4, b1, b2, b3, k18, ha, h1, w1, w2]
    | some S =>
      rw [hgo] at h2
      obtain ⟨u', rfl, rfl⟩ := h2
      have e2 : ∀ T, alenSl (.slice (VV vals) T) = some (.int .i64 (vals.length : Int)) := fun T => alenSl_t
      by_cases hq : (sel false l).length = vals.length
      · simp -implicitDefEqProofs [-anew, -Fd.cells_t, -hide, -unhide, -lockIds, n7, a1, a2, a3, k16, b1, b2, b3, k18, ha, h1, w1, w2, hp_l5, hp_l00, e2, hq, hp_22, bg_s1, bg_s2, bg_l1, bg_l2]
      · have hq' : ¬ ((sel false l).length : Int) = (vals.length : Int) := by omega
        simp -implicitDefEqProofs [-anew, -Fd.cells_t, -hide, -unhide, -lockIds, n7, a1, a2, a3, k16, b1, b2, b3, k18, ha, h1, w1, w2, hp_l5, hp_l00, e2, hq, hq', hp_s1, hp_s2]
end
section
open Go Hk
def leV : List UInt8 → Int
  | [] => 0
  | b :: r => (b.toNat : Int) + 256 * leV r
theorem tor_add {n b i : Nat} (hn : n < 2 ^ (8 * i)) (hb : b < 256) (hi : i ≤ 3) : tor .i64 (n : Int) ((b * 2 ^ (8 * i) : Nat) : Int) = ((n + b * 2 ^ (8 * i) : Nat) : Int) := by
  have h1 : (n : Nat) < 2 ^ 24 := Nat.lt_of_lt_of_le hn (Nat.pow_le_pow_right (by decide) (by omega))
  have h2 : b * 2 ^ (8 * i) < 2 ^ 32 := by
    have h3 : 2 ^ (8 * i) ≤ 2 ^ 24 := Nat.pow_le_pow_right (by decide) (by omega)
    have h4 : b * 2 ^ (8 * i) ≤ 255 * 2 ^ 24 := Nat.mul_le_mul (by omega) h3
    omega
  have e : IntKind.i64.bits = 64 := rfl
  unfold tor
  rw [e, BitVec.toNat_or, BitVec.toNat_ofInt, BitVec.toNat_ofInt]
  have e1 : ((n : Int) % ((2 ^ 64 : Nat) : Int)).toNat = n := by omega
  have e2 : (((b * 2 ^ (8 * i) : Nat) : Int) % ((2 ^ 64 : Nat) : Int)).toNat = b * 2 ^ (8 * i) := by omega
  rw [e1, e2]
  have e3 : n ||| b * 2 ^ (8 * i) = n + b * 2 ^ (8 * i) := by
    have := Nat.shiftLeft_add_eq_or_of_lt hn b
    rw [Nat.shiftLeft_eq] at this
    rw [Nat.or_comm, ← this, Nat.add_comm]
  rw [e3, wrap64 (by omega) (by omega)]
theorem t40_step {p : List UInt8} {b : UInt8} {n i : Nat} (h : p[i]? = some b) (hi : i ≤ 3) (hn : n < 2 ^ (8 * i)) :
    t40_l0 p ((n : Int), (i : Int)) = some (.n, (((n + b.toNat * 2 ^ (8 * i) : Nat) : Int), ((i + 1 : Nat) : Int))) := by
  have hb := b.toNat_lt
  have e1 : tstr p (i : Int) = some (b.toNat : Int) := by unfold tstr; rw [if_pos (by omega)]; simp [h]
  have e2 : IntKind.wrap .i64 (b.toNat : Int) = (b.toNat : Int) := wrap64 (by omega) (by omega)
  have e3 : IntKind.wrap .i64 (8 * (i : Int)) = ((8 * i : Nat) : Int) := by rw [wrap64 (by omega) (by omega)]; omega
  have e4 : tshl .i64 (b.toNat : Int) ((8 * i : Nat) : Int) = some ((b.toNat * 2 ^ (8 * i) : Nat) : Int) := by
    unfold tshl
    rw [if_neg (by omega)]
    have e : min (8 * i) 64 = 8 * i := by omega
    have h2 : b.toNat * 2 ^ (8 * i) < 2 ^ 32 := by
      have h3 : 2 ^ (8 * i) ≤ 2 ^ 24 := Nat.pow_le_pow_right (by decide) (by omega)
      have h4 : b.toNat * 2 ^ (8 * i) ≤ 255 * 2 ^ 24 := Nat.mul_le_mul (by omega) h3
      omega
    have e5 : IntKind.i64.bits = 64 := rfl
    rw [e5, Int.toNat_natCast, e]
    have e6 : (b.toNat : Int) * 2 ^ (8 * i) = ((b.toNat * 2 ^ (8 * i) : Nat) : Int) := by push_cast; rfl
    rw [e6, wrap64 (by omega) (by omega)]
  have e5 : IntKind.wrap .i64 ((i : Int) + 1) = ((i + 1 : Nat) : Int) := by rw [wrap64 (by omega) (by omega)]; omega
  have e6 : decide ((i : Int) < 4) = true := by simp; omega
  unfold t40_l0
  simp only [e6, tc_true, e1, tb_some, e2, e3, e4, tor_add hn hb hi, e5]
theorem t40_eq (a b c d : UInt8) : t40 [a, b, c, d] = some (leV [a, b, c, d], true) := by
  have ha := a.toNat_lt
  have hb := b.toNat_lt
  have hc := c.toNat_lt
  have hd := d.toNat_lt
  unfold t40
  have s0 := t40_step (p := [a, b, c, d]) (b := a) (n := 0) (i := 0) rfl (by decide) (by decide)
  have s1 := t40_step (p := [a, b, c, d]) (b := b) (n := 0 + a.toNat * 2 ^ (8 * 0)) (i := 1) rfl (by decide) (by simp; omega)
  have s2 := t40_step (p := [a, b, c, d]) (b := c) (n := 0 + a.toNat * 2 ^ (8 * 0) + b.toNat * 2 ^ (8 * 1)) (i := 2) rfl (by decide) (by simp; omega)
  have s3 := t40_step (p := [a, b, c, d]) (b := d) (n := 0 + a.toNat * 2 ^ (8 * 0) + b.toNat * 2 ^ (8 * 1) + c.toNat * 2 ^ (8 * 2)) (i := 3) rfl (by decide) (by simp; omega)
  have s4 : ∀ x, t40_l0 [a, b, c, d] (x, ((3 + 1 : Nat) : Int)) = some (.x 0, (x, ((3 + 1 : Nat) : Int))) := fun x => by unfold t40_l0; simp
  have hl : lpT (t40_l0 [a, b, c, d]) (0, 0) = some (.x 0, (leV [a, b, c, d], ((3 + 1 : Nat) : Int))) := by
    refine (lpT_go s0).trans ((lpT_go s1).trans ((lpT_go s2).trans ((lpT_go s3).trans ((lpT_out (s4 _) (by simp)).trans ?_))))
    congr 3
    simp only [leV]
    omega
  rw [hl]
  simp
/-- The k-th element of a field in bytes. -/
def elV (f : Fd) (s : List UInt8) (k : Nat) : Int := leV ((s.drop (f.off.toNat + k * (ea f.ty).toNat)).take (ea f.ty).toNat)
def elsV (f : Fd) (s : List UInt8) (n : Nat) : List Int := (List.range n).map (elV f s)
theorem t25_eq (t : Ty) : t25 t = some (ea t) := by
  unfold t25 ea
  by_cases h : t.elem = 2 <;> simp [h]
theorem t28_step {f : Fd} {s : List UInt8} {w : Int} {k at_ : Nat} {b : UInt8} {j : Nat} {x : Int} (hx : 0 ≤ x) (hx2 : x ≤ 16777215) (ho : 0 ≤ f.off) (ho2 : f.off ≤ 70000) (hk : k ≤ 20000) (hw : 0 ≤ w) (hw2 : w ≤ 4) (hj : j ≤ 3)
    (hat : (at_ : Int) = f.off + (k : Int) * w + (j : Int)) (hb : s[at_]? = some b) :
    t28_l0 s (k : Int) w f (x, (j : Int)) = some (.n, (256 * x + (b.toNat : Int), (j : Int) - 1)) := by
  have hbl := b.toNat_lt
  have hkw : 0 ≤ (k : Int) * w ∧ (k : Int) * w ≤ 80000 := by
    constructor
    · exact Int.mul_nonneg (by omega) hw
    · calc (k : Int) * w ≤ (k : Int) * 4 := Int.mul_le_mul_of_nonneg_left hw2 (by omega)
        _ ≤ 80000 := by omega
  unfold t28_l0
  generalize (k : Int) * w = kw at *
  have e1 : IntKind.wrap .i64 (IntKind.wrap .i64 (f.off + IntKind.wrap .i64 kw) + (j : Int)) = (at_ : Int) := by
    rw [wrap64 (n := kw) (by omega) (by omega), wrap64 (n := f.off + kw) (by omega) (by omega), wrap64 (by omega) (by omega)]
    omega
  have e2 : tstr s (at_ : Int) = some (b.toNat : Int) := by unfold tstr; rw [if_pos (by omega)]; simp [hb]
  have e3 : IntKind.wrap .i64 (IntKind.wrap .i64 (256 * x) + IntKind.wrap .i64 (b.toNat : Int)) = 256 * x + (b.toNat : Int) := by
    rw [wrap64 (n := 256 * x) (by omega) (by omega), wrap64 (n := (b.toNat : Int)) (by omega) (by omega), wrap64 (by omega) (by omega)]
  have e4 : IntKind.wrap .i64 ((j : Int) - 1) = (j : Int) - 1 := wrap64 (by omega) (by omega)
  have e5 : decide (0 ≤ (j : Int)) = true := by simp
  simp only [e5, tc_true, e1, e2, tb_some, e3, e4]
theorem get_some {s : List UInt8} {i : Nat} (h : i < s.length) : ∃ b, s[i]? = some b := ⟨s[i], List.getElem?_eq_getElem h⟩
theorem t28_eq {f : Fd} {s : List UInt8} {k : Nat} (ho : 0 ≤ f.off) (ho2 : f.off ≤ 70000) (hk : k ≤ 16384) (hs : f.off + ((k : Int) + 1) * ea f.ty ≤ (s.length : Int)) : t28 f s (k : Int) = some (elV f s k) := by
  have ex : ∀ x, t28_l0 s (k : Int) (ea f.ty) f (x, -1) = some (.x 0, (x, -1)) := fun x => by unfold t28_l0; simp
  unfold t28
  rw [t25_eq]
  simp only [tb_some]
  rcases ea_b f.ty with e | e
  · rw [e] at hs ex
    obtain ⟨b, hb⟩ := get_some (s := s) (i := f.off.toNat + k * 1) (by omega)
    have s0 := t28_step (f := f) (s := s) (w := 1) (k := k) (j := 0) (x := 0) (by omega) (by omega) ho ho2 (by omega) (by omega) (by omega) (by omega) (at_ := f.off.toNat + k * 1) (by omega) hb
    have hl : lpT (t28_l0 s (k : Int) 1 f) (0, IntKind.wrap .i64 (1 - 1)) = some (.x 0, (256 * 0 + (b.toNat : Int), -1)) := by
      rw [show IntKind.wrap .i64 (1 - 1) = ((0 : Nat) : Int) from by decide]
      exact (lpT_go s0).trans (lpT_out (ex _) (by simp))
    rw [e, hl]
    have hd : s.drop (f.off.toNat + k * 1) = b :: s.drop (f.off.toNat + k * 1 + 1) := by
      have := List.drop_eq_getElem_cons (l := s) (i := f.off.toNat + k * 1) (by omega)
      rw [List.getElem?_eq_getElem (by omega)] at hb
      simp only [Option.some.injEq] at hb
      rw [this, hb]
    simp only [elV, e, Int.toNat_one, hd]
    simp [leV]
  · rw [e] at hs ex
    have g : ∀ j, j ≤ 3 → ∃ b, s[f.off.toNat + k * 4 + j]? = some b := fun j hj => get_some (by omega)
    obtain ⟨b0, h0⟩ := g 0 (by omega)
    obtain ⟨b1, h1⟩ := g 1 (by omega)
    obtain ⟨b2, h2⟩ := g 2 (by omega)
    obtain ⟨b3, h3⟩ := g 3 (by omega)
    have l0 := b0.toNat_lt
    have l1 := b1.toNat_lt
    have l2 := b2.toNat_lt
    have l3 := b3.toNat_lt
    have st : ∀ (j : Nat) (b : UInt8) (x : Int), j ≤ 3 → 0 ≤ x → x ≤ 16777215 → s[f.off.toNat + k * 4 + j]? = some b → t28_l0 s (k : Int) 4 f (x, (j : Int)) = some (.n, (256 * x + (b.toNat : Int), (j : Int) - 1)) :=
      fun j b x hj hx hx2 hb => t28_step hx hx2 ho ho2 (by omega) (by omega) (by omega) hj (at_ := f.off.toNat + k * 4 + j) (by omega) hb
    have hl : lpT (t28_l0 s (k : Int) 4 f) (0, IntKind.wrap .i64 (4 - 1)) = some (.x 0, (256 * (256 * (256 * (256 * 0 + (b3.toNat : Int)) + (b2.toNat : Int)) + (b1.toNat : Int)) + (b0.toNat : Int), -1)) := by
      rw [show IntKind.wrap .i64 (4 - 1) = ((3 : Nat) : Int) from by decide]
      refine (lpT_go (st 3 b3 0 (by omega) (by omega) (by omega) h3)).trans ?_
      refine (lpT_go (st 2 b2 (256 * 0 + (b3.toNat : Int)) (by omega) (by omega) (by omega) h2)).trans ?_
      refine (lpT_go (st 1 b1 (256 * (256 * 0 + (b3.toNat : Int)) + (b2.toNat : Int)) (by omega) (by omega) (by omega) h1)).trans ?_
      refine (lpT_go (st 0 b0 (256 * (256 * (256 * 0 + (b3.toNat : Int)) + (b2.toNat : Int)) + (b1.toNat : Int)) (by omega) (by omega) (by omega) h0)).trans ?_
      exact lpT_out (ex _) (by simp)
    rw [e, hl]
    have hd : ∀ j b, s[f.off.toNat + k * 4 + j]? = some b → s.drop (f.off.toNat + k * 4 + j) = b :: s.drop (f.off.toNat + k * 4 + (j + 1)) := by
      intro j b hb
      obtain ⟨hlt, hb⟩ := List.getElem?_eq_some_iff.1 hb
      rw [List.drop_eq_getElem_cons hlt, hb]
      rfl
    have hd0 := hd 0 b0 h0
    simp only [Nat.add_zero] at hd0
    have ht : (4 : Int).toNat = 4 := rfl
    simp only [elV, e, ht]
    rw [hd0, hd 1 b1 h1, hd 2 b2 h2, hd 3 b3 h3]
    simp only [List.take_succ_cons, List.take_zero, leV, tb_some, exT_exit, ibT_exit, beq_self_eq_true, cond_true]
    congr 1
    omega
end
section
open Go Hk
theorem sizesV_in : ∀ (l : List Fd) (a b : Int) (q : Int × Int), sizesV l a b = some q → 0 ≤ a → 0 ≤ b → a ≤ 65536 → b ≤ 65536 → a ≤ q.1 ∧ b ≤ q.2 ∧ q.1 ≤ 65536 ∧ q.2 ≤ 65536 ∧ ∀ f ∈ l, 0 ≤ f.off ∧ f.off + rm f.ty ≤ (if f.out then q.2 else q.1)
  | [], a, b, q, h, _, _, ha, hb => by
    simp only [sizesV, Option.some.injEq] at h
    subst h
    exact ⟨Int.le_refl _, Int.le_refl _, ha, hb, by simp⟩
  | f :: r, a, b, q, h, h1, h2, h3, h4 => by
    have hv := sizesV_cons f r a b
    by_cases hg : goodB f a b
    · rw [hv.1 hg] at h
      obtain ⟨g1, g2, g3, g4⟩ := good_next hg h1 h3 h2 h4
      obtain ⟨k1, k2, k3, k4, k5⟩ := sizesV_in r _ _ q h g1 g3 g2 g4
      have hr := rm_b hg.1
      have ho := hg.2.1
      refine ⟨?_, ?_, k3, k4, fun g hm => ?_⟩
      · cases hf : f.out <;> simp only [hf, if_true, Bool.false_eq_true, if_false] at k1 <;> omega
      · cases hf : f.out <;> simp only [hf, if_true, Bool.false_eq_true, if_false] at k2 <;> omega
      · cases hm with
        | head => cases hf : f.out <;> simp only [hf, if_true, Bool.false_eq_true, if_false] at k1 k2 ho ⊢ <;> omega
        | tail _ hm => exact k5 g hm
    · rw [hv.2 hg] at h; cases h
theorem tsub_mid {s : List UInt8} {a b : Int} (h0 : 0 ≤ a) (h1 : a ≤ b) (h2 : b ≤ s.length) : tsub s (some a) (some b) = some ((s.drop a.toNat).take (b.toNat - a.toNat)) := by
  unfold tsub tbnd
  have hb : 0 ≤ b := by omega
  simp only [h0, hb, if_true]
  rw [if_pos ⟨by omega, by omega⟩, List.take_drop]
theorem fill_eq {x z : List UInt8} {n : Int} (hn : n = 1 ∨ n = 4) (hx : x.length = n.toNat) (hz : z = [0, 0, 0].take (4 - n).toNat) : t40 (x ++ z) = some (leV x, true) := by
  subst hz
  rcases hn with rfl | rfl
  · match x, hx with
    | [b], _ =>
      have := t40_eq b 0 0 0
      simpa [leV] using this
  · match x, hx with
    | [a, b, c, d], _ => exact t40_eq a b c d
/-- What is asked of a field and the bytes that it lies in. -/
def fIn (f : Fd) (s : List UInt8) : Prop := fOk f ∧ 0 ≤ f.off ∧ f.off + rm f.ty ≤ (s.length : Int) ∧ s.length ≤ 65536
theorem el_in {f : Fd} {s : List UInt8} (h : fIn f s) {k : Nat} (hk : (k : Int) < mn f.ty) : 0 ≤ (k : Int) * ea f.ty ∧ f.off + (k : Int) * ea f.ty + ea f.ty ≤ (s.length : Int) ∧ f.off + ((k : Int) + 1) * ea f.ty ≤ (s.length : Int) := by
  have hr := rm_b h.1.1
  have h3 := h.2.2.1
  rcases ea_b f.ty with e | e <;> rw [e] at hr ⊢ <;> omega
theorem t27_step {f : Fd} {s : List UInt8} (h : fIn f s) {k : Nat} (hk : (k : Int) < mn f.ty) (acc : List Int) (ha : acc.length = k) :
    t27_l1 s (ea f.ty) (mn f.ty) f (acc, (k : Int)) = some (.n, (acc ++ [elV f s k], ((k + 1 : Nat) : Int))) := by
  have hm := mn_b h.1.1
  obtain ⟨h1, h2, h3⟩ := el_in h hk
  have ho := h.2.1
  have hl := h.2.2.2
  have hea := ea_b f.ty
  unfold t27_l1
  have hkn : f.off.toNat + k * (ea f.ty).toNat = (f.off + (k : Int) * ea f.ty).toNat := by
    rcases hea with e | e <;> rw [e] <;> simp <;> omega
  have hel : elV f s k = leV ((s.drop (f.off + (k : Int) * ea f.ty).toNat).take (ea f.ty).toNat) := by rw [elV, hkn]
  rw [hel]
  generalize (k : Int) * ea f.ty = kw at *
  have e1 : IntKind.wrap .i64 kw = kw := wrap64 (by omega) (by omega)
  have e2 : IntKind.wrap .i64 (f.off + kw) = f.off + kw := wrap64 (by omega) (by omega)
  have e3 : IntKind.wrap .i64 (f.off + kw + ea f.ty) = f.off + kw + ea f.ty := wrap64 (by omega) (by omega)
  have e4 : IntKind.wrap .i64 (4 - ea f.ty) = 4 - ea f.ty := wrap64 (by omega) (by omega)
  have e5 : tsub s (some (f.off + kw)) (some (f.off + kw + ea f.ty)) = some ((s.drop (f.off + kw).toNat).take (ea f.ty).toNat) := by
    rw [tsub_mid (by omega) (by omega) (by omega)]
    congr 2
    omega
  have e6 : tsub ([0, 0, 0] : List UInt8) none (some (4 - ea f.ty)) = some ([0, 0, 0].take (4 - ea f.ty).toNat) := tsub_pre (by omega) (by simp; omega)
  have hxl : ((s.drop (f.off + kw).toNat).take (ea f.ty).toNat).length = (ea f.ty).toNat := by rw [List.length_take, List.length_drop]; omega
  have e7 : tcat ((s.drop (f.off + kw).toNat).take (ea f.ty).toNat) ([0, 0, 0].take (4 - ea f.ty).toNat) = some ((s.drop (f.off + kw).toNat).take (ea f.ty).toNat ++ [0, 0, 0].take (4 - ea f.ty).toNat) := by
    unfold tcat
    rw [if_pos]
    rw [hxl, List.length_take]
    simp only [List.length_cons, List.length_nil]
    omega
  have e8 := fill_eq hea hxl (z := [0, 0, 0].take (4 - ea f.ty).toNat) rfl
  have e9 : ∀ x : Int, tapp 8 acc [x] = some (acc ++ [x]) := fun x => by unfold tapp; rw [if_pos (by simp; omega)]
  have e10 : IntKind.wrap .i64 ((k : Int) + 1) = ((k + 1 : Nat) : Int) := by rw [wrap64 (by omega) (by omega)]; omega
  have e11 : decide ((k : Int) < mn f.ty) = true := by simpa using hk
  simp only [e11, tc_true, e1, e2, e3, e4, e5, e6, e7, e8, e9, e10, tb_some]
theorem t27_run {f : Fd} {s : List UInt8} (h : fIn f s) : ∀ (d k : Nat), ((k + d : Nat) : Int) = mn f.ty → lpT (t27_l1 s (ea f.ty) (mn f.ty) f) (elsV f s k, (k : Int)) = some (.x 0, (elsV f s (k + d), ((k + d : Nat) : Int)))
  | 0, k, hk => by
    refine lpT_out ?_ (by simp)
    unfold t27_l1
    have : decide ((k : Int) < mn f.ty) = false := by simp; omega
    rw [this]
    rfl
  | d + 1, k, hk => by
    have hs := t27_step h (k := k) (by omega) (elsV f s k) (by simp [elsV])
    rw [lpT_go hs]
    have he : elsV f s k ++ [elV f s k] = elsV f s (k + 1) := by simp [elsV, List.range_succ]
    rw [he, t27_run h d (k + 1) (by omega)]
    congr 2
    · rw [show k + 1 + d = k + (d + 1) from by omega]
theorem t27_eq {f : Fd} {s : List UInt8} (h : fIn f s) : t27 f s = some (elsV f s (mn f.ty).toNat) := by
  have hm := mn_b h.1.1
  have := t27_run h (mn f.ty).toNat 0 (by omega)
  simp only [Nat.zero_add] at this
  unfold t27
  rw [t29_eq, t19_eq]
  simp only [tb_some]
  rw [show ((0 : Nat) : Int) = 0 from rfl, show elsV f s 0 = [] from rfl] at this
  rw [this]
  simp
end
section
open Go Hk
theorem sel_app (o : Bool) : ∀ (p r : List Fd), sel o (p ++ r) = sel o p ++ sel o r
  | [], r => rfl
  | f :: p, r => by
    have := sel_app o p r
    simp only [List.cons_append, sel, this]
    split <;> simp
theorem t23_run : ∀ (r p : List Fd), (p ++ r).length ≤ 1000 → lpT (t23_l2 (p ++ r)) (sel false p, (p.length : Int)) = some (.x 0, (sel false (p ++ r), ((p ++ r).length : Int)))
  | [], p, _ => by
    refine lpT_out ?_ (by simp)
    unfold t23_l2
    simp
  | f :: r, p, hl => by
    have hl' : p.length + (r.length + 1) ≤ 1000 := by simpa using hl
    have e4 : IntKind.wrap .i64 ((p.length : Int) + 1) = (((p ++ [f]).length : Nat) : Int) := by rw [wrap64 (by omega) (by omega)]; simp
    have e5 : decide ((p.length : Int) < (((p ++ f :: r).length : Nat) : Int)) = true := by simp; omega
    have hsl := sel_len (o := false) (l := p)
    have hj : t23_j0 (!f.out) (p ++ f :: r) (p.length : Int) (sel false p) = some (sel false (p ++ [f])) := by
      unfold t23_j0
      rw [tidx_mid rfl, sel_app]
      have : tapp 64 (sel false p) [f] = some (sel false p ++ [f]) := by unfold tapp; rw [if_pos (by simp; omega)]
      cases hf : f.out <;> simp [this, sel, hf]
    have hgo : t23_l2 (p ++ f :: r) (sel false p, (p.length : Int)) = some (.n, (sel false (p ++ [f]), (((p ++ [f]).length : Nat) : Int))) := by
      unfold t23_l2
      simp only [e5, tc_true, tidx_mid rfl, tb_some, hj, e4]
    rw [lpT_go hgo]
    have := t23_run r (p ++ [f]) (by simpa using hl)
    simpa using this
theorem t23_eq (l : List Fd) (hl : l.length ≤ 1000) : t23 l = some (sel false l) := by
  have := t23_run l [] (by simpa using hl)
  simp only [List.nil_append, List.length_nil] at this
  rw [show ((0 : Nat) : Int) = 0 from rfl, show sel false [] = [] from rfl] at this
  unfold t23
  rw [this]
  simp
theorem t24_eq {f : Fd} (h : kindB f = true) : t24 f.ty = some (mn f.ty) := by
  have := kind_len h
  unfold t24 mn
  by_cases h0 : f.ty.len = 0
  · simp [h0]; decide
  · simp [h0]; omega
/-! ### Unpack -/
def unV (s : List UInt8) (l : List Fd) : List (List Int) := (sel true l).map fun f => elsV f s (mn f.ty).toNat
theorem t10_in {f : Fd} {s : List UInt8} (h : fIn f s) (hout : f.out = true) {p : List Fd} {i : Int} (hi : tidx p i = some f) : ∀ (d k : Nat), ((k + d : Nat) : Int) = mn f.ty → lpT (t10_l3 p s i) (elsV f s k, (k : Int)) = some (.x 2, (elsV f s (k + d), ((k + d : Nat) : Int)))
  | 0, k, hk => by
    have hm : mn f.ty = f.ty.len := by have := (kind_len h.1.1).2.2.2.2.1 hout; unfold mn; omega
    refine lpT_out ?_ (by simp)
    unfold t10_l3
    have : decide ((k : Int) < f.ty.len) = false := by simp; omega
    simp only [hi, tb_some, this, tc_false]
    rfl
  | d + 1, k, hk => by
    have hm : mn f.ty = f.ty.len := by have := (kind_len h.1.1).2.2.2.2.1 hout; unfold mn; omega
    have hmb := mn_b h.1.1
    have hr := rm_b h.1.1
    have h28 := t28_eq (f := f) (s := s) (k := k) h.2.1 (by have := h.2.2; omega) (by omega) (el_in h (by omega)).2.2
    have e9 : tapp 8 (elsV f s k) [elV f s k] = some (elsV f s (k + 1)) := by
      unfold tapp
      rw [if_pos (by simp [elsV]; omega)]
      simp [elsV, List.range_succ]
    have e10 : IntKind.wrap .i64 ((k : Int) + 1) = ((k + 1 : Nat) : Int) := by rw [wrap64 (by omega) (by omega)]; omega
    have hgo : t10_l3 p s i (elsV f s k, (k : Int)) = some (.n, (elsV f s (k + 1), ((k + 1 : Nat) : Int))) := by
      unfold t10_l3
      have : decide ((k : Int) < f.ty.len) = true := by simp; omega
      simp only [hi, tb_some, this, tc_true, h28, e9, e10]
    rw [lpT_go hgo, t10_in h hout hi d (k + 1) (by omega)]
    congr 2
    · rw [show k + 1 + d = k + (d + 1) from by omega]
theorem unV_app (s : List UInt8) (p r : List Fd) : unV s (p ++ r) = unV s p ++ unV s r := by simp [unV, sel_app]
theorem t10_run (s : List UInt8) : ∀ (r p : List Fd), (p ++ r).length ≤ 1000 → (∀ f ∈ r, f.out = true → fIn f s) → lpT (t10_l5 (p ++ r) s) (unV s p, (p.length : Int)) = some (.x 0, (unV s (p ++ r), ((p ++ r).length : Int)))
  | [], p, _, _ => by
    refine lpT_out ?_ (by simp)
    unfold t10_l5
    simp
  | f :: r, p, hl, hf => by
    have hl' : p.length + (r.length + 1) ≤ 1000 := by simpa using hl
    have e4 : IntKind.wrap .i64 ((p.length : Int) + 1) = (((p ++ [f]).length : Nat) : Int) := by rw [wrap64 (by omega) (by omega)]; simp
    have e5 : decide ((p.length : Int) < (((p ++ f :: r).length : Nat) : Int)) = true := by simp; omega
    have hb : ∃ e, t10_b1 (p ++ f :: r) (p.length : Int) (unV s p) s = some (e, unV s (p ++ [f])) ∧ (e = .n ∨ e = .x 1) := by
      unfold t10_b1
      rw [tidx_mid rfl]
      rw [unV_app]
      cases ho : f.out with
      | false => exact ⟨.x 1, by simp [ho, unV, sel], .inr rfl⟩
      | true =>
        refine ⟨.n, ?_, .inl rfl⟩
        have hin := hf f (.head _) ho
        have hmb := mn_b hin.1.1
        have hrun := t10_in hin ho (p := p ++ f :: r) (i := (p.length : Int)) (tidx_mid rfl) (mn f.ty).toNat 0 (by omega)
        simp only [Nat.zero_add] at hrun
        rw [show ((0 : Nat) : Int) = 0 from rfl, show elsV f s 0 = [] from rfl] at hrun
        have hul : (unV s p).length ≤ p.length := by simp only [unV, List.length_map]; exact sel_len
        have e9 : tapp 24 (unV s p) [elsV f s (mn f.ty).toNat] = some (unV s p ++ [elsV f s (mn f.ty).toNat]) := by unfold tapp; rw [if_pos (by simp; omega)]
        simp only [tb_some, ho, Bool.not_true, tc_false, hrun, exT_exit, ibT_exit, beq_self_eq_true, cond_true, e9]
        simp [unV, sel, ho]
    obtain ⟨e, hb, he⟩ := hb
    have hgo : t10_l5 (p ++ f :: r) s (unV s p, (p.length : Int)) = some (.n, (unV s (p ++ [f]), (((p ++ [f]).length : Nat) : Int))) := by
      unfold t10_l5
      simp only [e5, tc_true, hb, tb_some, e4]
      rcases he with rfl | rfl <;> rfl
    rw [lpT_go hgo]
    have := t10_run s r (p ++ [f]) (by simpa using hl) (fun g hg => hf g (.tail _ hg))
    simpa using this
/-- Unpack's answer. -/
def unR (l : List Fd) (s : List UInt8) : List (List Int) × Int := match sizesV l 0 0 with
  | none => ([], 2)
  | some q => if q.2 = (s.length : Int) then (unV s l, 0) else ([], 2)
theorem fin_out {l : List Fd} {q : Int × Int} (hv : sizesV l 0 0 = some q) {s : List UInt8} (hs : q.2 = (s.length : Int)) : ∀ f ∈ l, f.out = true → fIn f s := by
  intro f hf ho
  have h1 := sizesV_ok l 0 0 q hv f hf
  obtain ⟨_, _, _, k4, k5⟩ := sizesV_in l 0 0 q hv (by decide) (by decide) (by decide) (by decide)
  have := k5 f hf
  rw [if_pos ho] at this
  exact ⟨h1, this.1, by omega, by omega⟩
theorem fin_in {l : List Fd} {q : Int × Int} (hv : sizesV l 0 0 = some q) {s : List UInt8} (hs : q.1 = (s.length : Int)) : ∀ f ∈ sel false l, fIn f s := by
  intro f hf
  obtain ⟨hf, ho⟩ := sel_mem hf
  have h1 := sizesV_ok l 0 0 q hv f hf
  obtain ⟨_, _, k3, k4, k5⟩ := sizesV_in l 0 0 q hv (by decide) (by decide) (by decide) (by decide)
  have := k5 f hf
  rw [if_neg (by simp [ho])] at this
  exact ⟨h1, this.1, by omega, by omega⟩
theorem t10_eq (l : List Fd) (s : List UInt8) (hl : l.length ≤ 1000) : t10 l s = some (unR l s) := by
  unfold t10 unR t10_s0
  rw [t6_eq l hl]
  cases hv : sizesV l 0 0 with
  | none => simp
  | some q =>
    obtain ⟨k1, k2, k3, k4, k5⟩ := sizesV_in l 0 0 q hv (by decide) (by decide) (by decide) (by decide)
    have hn : decide (q.2 < 0) = false := by simp; omega
    by_cases hq : q.2 = (s.length : Int)
    · have := t10_run s l [] (by simpa using hl) (fin_out hv hq)
      simp only [List.nil_append, List.length_nil] at this
      rw [show ((0 : Nat) : Int) = 0 from rfl, show unV s [] = [] from rfl] at this
      simp only [tb_some, Option.getD_some, hn, tc_false, if_pos hq]
      rw [hq, this]
      simp
    · simp [hn, hq]
/-! ### Agree -/
/-- Do two inputs agree, as the document says? -/
def agV (a b : List UInt8) (fs : List Fd) : Bool := fs.all fun f => !decide (f.ty.lab = 0) || (List.range (mn f.ty).toNat).all fun k => decide (elV f a k = elV f b k)
theorem agr_in {f : Fd} {a b : List UInt8} (ha : fIn f a) (hb : fIn f b) {p : List Fd} {i : Int} (hi : tidx p i = some f) : ∀ (d k : Nat), ((k + d : Nat) : Int) = mn f.ty →
    ∃ e : Ey × Int, lpT (t13_l4 a b p i) (k : Int) = some e ∧ e.1 = (if (!decide (f.ty.lab = 0) || (List.range' k d).all fun k => decide (elV f a k = elV f b k)) = true then .x 2 else .r)
  | 0, k, hk => by
    refine ⟨(.x 2, (k : Int)), lpT_out ?_ (by simp), by simp⟩
    unfold t13_l4
    have : decide ((k : Int) < mn f.ty) = false := by simp; omega
    simp only [hi, tb_some, t24_eq ha.1.1, this, tc_false]
    rfl
  | d + 1, k, hk => by
    have hmb := mn_b ha.1.1
    have hr := rm_b ha.1.1
    have e0 : decide ((k : Int) < mn f.ty) = true := by simp; omega
    by_cases hlab : f.ty.lab = 0
    · have h28 := t28_eq (f := f) (s := a) (k := k) ha.2.1 (by have := ha.2.2; omega) (by omega) (el_in ha (by omega)).2.2
      have h28' := t28_eq (f := f) (s := b) (k := k) hb.2.1 (by have := hb.2.2; omega) (by omega) (el_in hb (by omega)).2.2
      have e10 : IntKind.wrap .i64 ((k : Int) + 1) = ((k + 1 : Nat) : Int) := by rw [wrap64 (by omega) (by omega)]; omega
      have hgo : t13_l4 a b p i (k : Int) = if elV f a k = elV f b k then some (.n, ((k + 1 : Nat) : Int)) else some (.r, (k : Int)) := by
        unfold t13_l4 t13_s3
        simp only [hi, tb_some, t24_eq ha.1.1, e0, tc_true, hlab, decide_true, h28, h28', e10]
        by_cases hq : elV f a k = elV f b k <;> simp [hq]
      by_cases hq : elV f a k = elV f b k
      · rw [if_pos hq] at hgo
        rw [lpT_go hgo]
        obtain ⟨e, h1, h2⟩ := agr_in ha hb hi d (k + 1) (by omega)
        refine ⟨e, h1, ?_⟩
        rw [h2, List.range'_succ, List.all_cons, decide_eq_true hq, Bool.true_and]
      · rw [if_neg hq] at hgo
        refine ⟨_, lpT_out hgo (by simp), ?_⟩
        rw [List.range'_succ, List.all_cons, decide_eq_false hq, Bool.false_and, decide_eq_true hlab]
        rfl
    · refine ⟨(.x 2, (k : Int)), lpT_out ?_ (by simp), by simp [hlab]⟩
      unfold t13_l4 t13_s3
      simp only [hi, tb_some, t24_eq ha.1.1, e0, tc_true, hlab, decide_false, tc_false]
theorem agr_run (a b : List UInt8) : ∀ (r p : List Fd), (p ++ r).length ≤ 1000 → (∀ f ∈ r, fIn f a ∧ fIn f b) →
    ∃ e : Ey × Int, lpT (t13_l5 a b (p ++ r)) (p.length : Int) = some e ∧ e.1 = (if agV a b r = true then .x 0 else .r)
  | [], p, _, _ => by
    refine ⟨(.x 0, (p.length : Int)), lpT_out ?_ (by simp), by simp [agV]⟩
    unfold t13_l5
    simp
  | f :: r, p, hl, hf => by
    have hl' : p.length + (r.length + 1) ≤ 1000 := by simpa using hl
    have e4 : IntKind.wrap .i64 ((p.length : Int) + 1) = (((p ++ [f]).length : Nat) : Int) := by rw [wrap64 (by omega) (by omega)]; simp
    have e5 : decide ((p.length : Int) < (((p ++ f :: r).length : Nat) : Int)) = true := by simp; omega
    have hin := hf f (.head _)
    have hmb := mn_b hin.1.1.1
    obtain ⟨⟨e, x⟩, h1, h2⟩ := agr_in hin.1 hin.2 (p := p ++ f :: r) (i := (p.length : Int)) (tidx_mid rfl) (mn f.ty).toNat 0 (by omega)
    rw [show ((0 : Nat) : Int) = 0 from rfl] at h1
    simp only [← List.range_eq_range'] at h2
    by_cases hg : (!decide (f.ty.lab = 0) || (List.range (mn f.ty).toNat).all fun k => decide (elV f a k = elV f b k)) = true
    · rw [if_pos hg] at h2
      subst h2
      have hgo : t13_l5 a b (p ++ f :: r) (p.length : Int) = some (.n, (((p ++ [f]).length : Nat) : Int)) := by
        unfold t13_l5 t13_b2
        simp only [e5, tc_true, h1, tb_some, exT_exit, ibT_exit, beq_self_eq_true, cond_true, ibT_normal, e4]
      rw [lpT_go hgo]
      obtain ⟨e, k1, k2⟩ := agr_run a b r (p ++ [f]) (by simpa using hl) (fun g hg => hf g (.tail _ hg))
      refine ⟨e, by simpa using k1, ?_⟩
      rw [k2]
      have : agV a b (f :: r) = agV a b r := by simp only [agV, List.all_cons, hg, Bool.true_and]
      rw [this]
    · rw [if_neg hg] at h2
      subst h2
      have hgo : t13_l5 a b (p ++ f :: r) (p.length : Int) = some (.r, (p.length : Int)) := by
        unfold t13_l5 t13_b2
        simp only [e5, tc_true, h1, tb_some, exT_ret, ibT_ret, beq_self_eq_true, cond_true]
      refine ⟨_, lpT_out hgo (by simp), ?_⟩
      have : agV a b (f :: r) = false := by
        simp only [agV, List.all_cons, Bool.and_eq_false_iff]
        exact .inl (by simpa using hg)
      rw [this]
      rfl
/-- Agree's answer. -/
def agR (l : List Fd) (a b : List UInt8) : Bool := match sizesV l 0 0 with
  | none => false
  | some q => decide (q.1 = (a.length : Int)) && (decide (q.1 = (b.length : Int)) && agV a b (sel false l))
theorem t13_eq (l : List Fd) (a b : List UInt8) (hl : l.length ≤ 1000) : t13 l a b = some (agR l a b) := by
  unfold t13 agR t13_s0 t13_s1
  rw [t6_eq l hl]
  cases hv : sizesV l 0 0 with
  | none => simp
  | some q =>
    obtain ⟨k1, k2, k3, k4, k5⟩ := sizesV_in l 0 0 q hv (by decide) (by decide) (by decide) (by decide)
    have hn : decide (q.1 < 0) = false := by simp; omega
    by_cases hq : q.1 = (a.length : Int)
    · by_cases hq2 : q.1 = (b.length : Int)
      · have hsl := sel_len (o := false) (l := l)
        obtain ⟨⟨e, x⟩, h1, h2⟩ := agr_run a b (sel false l) [] (by simp; omega) (fun f hf => ⟨fin_in hv hq f hf, fin_in hv hq2 f hf⟩)
        simp only [List.nil_append, List.length_nil] at h1
        rw [show ((0 : Nat) : Int) = 0 from rfl] at h1
        have d1 : decide ((a.length : Int) = q.1) = true := by simp [hq]
        have d2 : decide ((b.length : Int) = q.1) = true := by simp [hq2]
        have d3 : decide (q.1 = (a.length : Int)) = true := by simp [hq]
        have d4 : decide (q.1 = (b.length : Int)) = true := by simp [hq2]
        simp only [tb_some, Option.getD_some, hn, d1, d2, d3, d4, Bool.not_true, tc_false, t23_eq l hl, h1, Bool.true_and]
        cases ha : agV a b (sel false l) with
        | true =>
          rw [ha, if_pos rfl] at h2
          simp only at h2
          subst h2
          simp
        | false =>
          rw [ha, if_neg (by decide)] at h2
          simp only at h2
          subst h2
          simp
      · have d2 : decide ((b.length : Int) = q.1) = false := by simp; omega
        have d4 : decide (q.1 = (b.length : Int)) = false := by simpa using hq2
        have d1 : decide ((a.length : Int) = q.1) = true := by simp [hq]
        simp only [tb_some, Option.getD_some, hn, d1, d2, d4, Bool.not_true, tc_false, Bool.not_false, tc_true]
        simp
    · have d1 : decide ((a.length : Int) = q.1) = false := by simp; omega
      have d3 : decide (q.1 = (a.length : Int)) = false := by simpa using hq
      simp only [tb_some, Option.getD_some, hn, d1, d3, Bool.not_false, tc_false, tc_true]
      simp
/-! ### Values that are the same -/
theorem t11_in {p : List (List Int)} {i : Int} {v : List Int} (hi : tidx p i = some v) (hv : v.length ≤ 20000) : ∀ (r q : List Int), v = q ++ r → lpT (t11_l1 p p i) (q.length : Int) = some (.x 2, (v.length : Int))
  | [], q, h => by
    have : v = q := by simpa using h
    subst this
    refine lpT_out ?_ (by simp)
    unfold t11_l1
    simp [hi]
  | x :: r, q, h => by
    have hl : v.length = q.length + (r.length + 1) := by subst h; simp
    have e4 : IntKind.wrap .i64 ((q.length : Int) + 1) = (((q ++ [x]).length : Nat) : Int) := by rw [wrap64 (by omega) (by omega)]; simp
    have e5 : decide ((q.length : Int) < (v.length : Int)) = true := by simp; omega
    have e6 : tidx v (q.length : Int) = some x := by subst h; exact tidx_mid rfl
    have hgo : t11_l1 p p i (q.length : Int) = some (.n, (((q ++ [x]).length : Nat) : Int)) := by
      unfold t11_l1
      simp only [hi, tb_some, e5, tc_true, e6, decide_true, Bool.not_true, tc_false, e4]
    rw [lpT_go hgo]
    exact t11_in hi hv r (q ++ [x]) (by simpa using h)
theorem t11_run : ∀ (r p : List (List Int)), (p ++ r).length ≤ 1000 → (∀ v ∈ r, v.length ≤ 20000) → lpT (t11_l2 (p ++ r) (p ++ r)) (p.length : Int) = some (.x 0, ((p ++ r).length : Int))
  | [], p, _, _ => by
    refine lpT_out ?_ (by simp)
    unfold t11_l2
    simp
  | v :: r, p, hl, hf => by
    have hl' : p.length + (r.length + 1) ≤ 1000 := by simpa using hl
    have e4 : IntKind.wrap .i64 ((p.length : Int) + 1) = (((p ++ [v]).length : Nat) : Int) := by rw [wrap64 (by omega) (by omega)]; simp
    have e5 : decide ((p.length : Int) < (((p ++ v :: r).length : Nat) : Int)) = true := by simp; omega
    have h1 := t11_in (p := p ++ v :: r) (i := (p.length : Int)) (v := v) (tidx_mid rfl) (hf v (.head _)) v [] rfl
    rw [List.length_nil, show ((0 : Nat) : Int) = 0 from rfl] at h1
    have hgo : t11_l2 (p ++ v :: r) (p ++ v :: r) (p.length : Int) = some (.n, (((p ++ [v]).length : Nat) : Int)) := by
      unfold t11_l2 t11_b0
      simp only [e5, tc_true, tidx_mid rfl, tb_some, decide_true, Bool.not_true, tc_false, h1, exT_exit, ibT_exit, beq_self_eq_true, cond_true, ibT_normal, e4]
    rw [lpT_go hgo]
    have := t11_run r (p ++ [v]) (by simpa using hl) (fun g hg => hf g (.tail _ hg))
    simpa using this
theorem t11_eq (v : List (List Int)) (hl : v.length ≤ 1000) (hv : ∀ x ∈ v, x.length ≤ 20000) : t11 v v = some true := by
  have := t11_run v [] (by simpa using hl) hv
  simp only [List.nil_append, List.length_nil] at this
  rw [show ((0 : Nat) : Int) = 0 from rfl] at this
  unfold t11
  simp only [decide_true, Bool.not_true, tc_false, this, tb_some, exT_exit, ibT_exit, beq_self_eq_true, cond_true]
end
section
open Go Hk
def UH (out : List UInt8) (vs : List (List Int)) (L : List (List AVal)) (C : Heap) : Heap := .cells [.str out] :: .front 0 0 :: .cells [.slice (VV vs) (.own 3)] :: FRs 1 vs.length :: .cells [.slice L .no] :: .cells [.bool true] :: C
def UG (out : List UInt8) (n : Nat) (L : List (List AVal)) (C : Heap) : Heap := .cells [.str out] :: .front 0 0 :: .gone :: FRs 1 n :: .cells [.slice L .no] :: .cells [.bool true] :: C
section
variable {out : List UInt8} {vs : List (List Int)} {L : List (List AVal)} {C : Heap} {f : Fd} {c : List AVal} {l : List Int} {n : Nat}
theorem u_new : anew 7 (UH out vs L []) (.agg [.str [], .int .i64 0, .int .i64 0, .int .i64 0, .bool false, .int .i64 0, .int .i64 0]) = some (.ptr 6 0, UH out vs L [.cells zC]) := (rfl)
theorem u_st : astore 7 (UH out vs L [.cells zC]) (.ptr 6 0) (.agg f.cells) = some (UH out vs L [.cells f.cells]) := (rfl)
theorem u_l2 : aload false 1 (UH out vs L C) (.ptr 2 0) = some (.slice (VV vs) (.own 3)) := (rfl)
theorem u_l6 : aload true 7 (UH out vs L [.cells f.cells]) (.ptr 6 0) = some (.agg f.cells) := (rfl)
theorem u_l0 : aload false 1 (UH out vs L C) (.ptr 0 0) = some (.str out) := (rfl)
theorem u_hide : hide (lockIds [0] [.ptr 2 0]) (UH out vs L C) = UG out vs.length L C := (rfl)
theorem u_unhide : unhide (lockIds [0] [.ptr 2 0]) (UH out vs L C) (UG out vs.length L C) = UH out vs L C := (rfl)
theorem u_unhide2 {C' : Heap} : unhide (lockIds [0] [.ptr 2 0]) (UH out vs L C) (UG out vs.length L C') = UH out vs L C' := (rfl)
theorem u_bs : abuildSlice 1 1 [.slice [] .nil] [(0, .slice (Rw (ci .i64) l) .no)] (UG out n L [.cells f.cells]) = some (.slice [[.slice (Rw (ci .i64) l) .no]] (.own 7), UG out n L [.cells f.cells, FRs 1 1]) := (rfl)
theorem u_app (h : vs.length ≤ 1000) : aappend 1 24 (UH out vs L C) (.slice (VV vs) (.own 3)) (.slice [[.slice (Rw (ci .i64) l) .no]] (.own 7)) = some (.slice (VV (vs ++ [l])) (.own 3), (UH out vs L C).set 3 (FRs 1 (vs ++ [l]).length)) := by
  have h1 : ([[.slice (Rw (ci .i64) l) .no]] : List (List AVal)) = Rw (csl (ci .i64)) [l] := rfl
  have h2 := aappend_t (enc := csl (ci .i64)) (sz := 1) (xs := vs) (ys := [l]) (by_ := 24) (id := 3) (h := UH out vs L C) (T := .own 7) (fun _ => rfl) rfl
  rw [h1]
  unfold VV
  rw [h2]
  have e9 : tapp 24 vs [l] = some (vs ++ [l]) := by unfold tapp; rw [if_pos (by simp; omega)]
  rw [e9]
  rfl
theorem u_st2 : astore 1 ((UH out vs L C).set 3 (FRs 1 n)) (.ptr 2 0) (.slice (VV (vs ++ [l])) (.own 3)) = some ((UH out (vs ++ [l]) L C).set 3 (FRs 1 n)) := by
  cases vs <;> rfl
theorem u_set : (UH out (vs ++ [l]) L C).set 3 (FRs 1 (vs ++ [l]).length) = UH out (vs ++ [l]) L C := (rfl)
theorem u_end : sanBlks 6 (UH out vs L C) (List.take 6 (UH out vs L C)) = some (UH out vs L []) := by
  have : List.take 6 (UH out vs L C) = UH out vs L [] := rfl
  rw [this]
  simp [UH]
end
theorem u_round {f : Fd} {out : List UInt8} {vs : List (List Int)} {L : List (List AVal)} {h27 : Heap} {k : Nat} (h6 : h27.length = 6) (hin : fIn f out) (hv : vs.length ≤ 1000) :
    f9 KK (.ptr 2 0) (.ptr 0 0) h27 [.int .i64 (k : Int), .agg f.cells] (UH out vs L []) = some (.normal, [], UH out (vs ++ [elsV f out (mn f.ty).toNat]) L []) := by
  have k27 : ∀ h, KK 27 [.agg f.cells, .str out] h = some (.ret (.slice (Rw (ci .i64) (elsV f out (mn f.ty).toNat)) .no), h) := fun h => (r27 f out h).trans (by rw [t27_eq hin]; rfl)
  unfold f9
  simp -implicitDefEqProofs [-anew, -Fd.cells_t, -hide, -unhide, -lockIds, -List.length_append, -aload_ptr, -aload_ptrT, -astore_ptr, u_new, u_st, u_l2, u_l6, u_l0, u_hide, u_unhide, u_unhide2, u_bs, u_app hv, u_st2, u_set, u_end, h6, untokC, k27]
theorem u_run (out : List UInt8) (L : List (List AVal)) (h27 : Heap) (h6 : h27.length = 6) (hc : ∀ vs, ∀ p ∈ [AVal.ptr 4 0, AVal.ptr 5 0], aload false 1 (UH out vs L []) p = aload false 1 h27 p) :
    ∀ (fs : List Fd) (k : Nat) (vs : List (List Int)), (∀ f ∈ fs, fIn f out) → vs.length + fs.length ≤ 1000 →
    rfL [.ptr 4 0, .ptr 5 0] h27 (f9 KK (.ptr 2 0) (.ptr 0 0) h27) (rowsK k fs) (UH out vs L []) = some (.normal, [], UH out (vs ++ fs.map fun f => elsV f out (mn f.ty).toNat) L [])
  | [], k, vs, _, _ => by simp [rowsK, rfL]
  | f :: r, k, vs, hf, hl => by
    simp only [List.length_cons] at hl
    rw [rowsK, rfL_cons_n (u_round h6 (hf f (.head _)) (by omega)) (fun p hp => hc _ p hp), u_run out L h27 h6 hc r (k + 1) _ (fun g hg => hf g (.tail _ hg)) (by simp; omega)]
    simp
theorem c9 (l : List Fd) (out : List UInt8) (hl : l.length ≤ 1000) (h : Heap) :
    KK 9 [.slice (Rw Fd.cells l) .no, .str out] h = some (.ret (.tuple [.slice (VV (unR l out).1) .no, .int .i64 (unR l out).2]), h) := by
  refine callP_pure rfl rfl (evW_by (m9_eq _ _ _ _) ?_)
  rw [m9_f]
  obtain ⟨x, y, ht⟩ := t16_v l hl
  have a1 : anew 1 [] (.str out) = some (.ptr 0 0, [.cells [.str out]]) := rfl
  have q1 : ∀ r, aload false 1 (.cells [.str out] :: r) (.ptr 0 0) = some (.str out) := fun _ => rfl
  unfold unR
  cases hv : sizesV l 0 0 with
  | none =>
    rw [hv] at ht
    have k16 : ∀ h, KK 16 [.slice (Rw Fd.cells l) .no] h = some (.ret (.tuple [.int .i64 x, .int .i64 y, .bool false]), h) := fun h => by rw [r16, ht]; rfl
    simp -implicitDefEqProofs [-anew, -Fd.cells_t, -hide, -unhide, -lockIds, n9, a1, k16, q1]
    rfl
  | some q =>
    rw [hv] at ht
    have k16 : ∀ h, KK 16 [.slice (Rw Fd.cells l) .no] h = some (.ret (.tuple [.int .i64 q.1, .int .i64 q.2, .bool true]), h) := fun h => by rw [r16, ht]; rfl
    by_cases hq : q.2 = (out.length : Int)
    · have b1 : anew 1 [.cells [.str out], .front 0 0] (.slice [] .nil) = some (.ptr 2 0, [.cells [.str out], .front 0 0, .cells [.slice [] (.own 3)], .front 0 0]) := rfl
      have k18 : KK 18 [.slice (Rw Fd.cells l) .no, .bool true] [.cells [.str out], .front 0 0, .cells [.slice [] (.own 3)], .front 0 0] = some (.ret (.func 35 [] [.ptr 4 0, .ptr 5 0]), UH out [] (Rw Fd.cells l) []) := (c18 _ _ _).trans rfl
      have ha := aiter_eq (l := l) (o := true) (p := 4) (q := 5) (h := UH out [] (Rw Fd.cells l) []) hl rfl rfl
      have hsl := sel_len (o := true) (l := l)
      have h1 := u_run out (Rw Fd.cells l) (UH out [] (Rw Fd.cells l) []) rfl (fun vs p hp => by
        simp only [List.mem_cons, List.not_mem_nil, or_false] at hp
        rcases hp with rfl | rfl <;> rfl) (sel true l) 0 [] (fun f hf => fin_out hv hq f (sel_mem hf).1 (sel_mem hf).2) (by simp; omega)
      simp only [List.nil_append] at h1
      have h2 : (sel true l).map (fun f => elsV f out (mn f.ty).toNat) = unV out l := rfl
      rw [h2] at h1
      have e1 : decide ((out.length : Int) = q.2) = true := by simp [hq]
      simp -implicitDefEqProofs [-anew, -aload_ptr, -aload_ptrT, -Fd.cells_t, -hide, -unhide, -lockIds, n9, a1, k16, q1, e1, b1, k18, ha, h1, u_l2, hq]
    · have e1 : decide ((out.length : Int) = q.2) = false := by simp; omega
      simp -implicitDefEqProofs [-anew, -Fd.cells_t, -hide, -unhide, -lockIds, n9, a1, k16, q1, e1, hq]
      rfl
end
section
open Go Hk
/-! ### Bytes and elements -/
theorem leV_inj : ∀ (x y : List UInt8), x.length = y.length → leV x = leV y → x = y
  | [], [], _, _ => rfl
  | a :: r, b :: s, hl, h => by
    have ha := a.toNat_lt
    have hb := b.toNat_lt
    simp only [leV] at h
    have h1 : a.toNat = b.toNat := by omega
    have h2 : leV r = leV s := by omega
    rw [UInt8.toNat_inj.1 h1, leV_inj r s (by simpa using hl) h2]
def chk (w : Nat) (s : List UInt8) (k : Nat) : List UInt8 := (s.drop (k * w)).take w
theorem chk_all (w : Nat) (x y : List UInt8) : ∀ (n : Nat), (∀ k, k < n → chk w x k = chk w y k) → x.take (n * w) = y.take (n * w)
  | 0, _ => by simp
  | n + 1, h => by
    have h1 := chk_all w x y n fun k hk => h k (by omega)
    have h2 := h n (by omega)
    unfold chk at h2
    rw [Nat.succ_mul, List.take_add, List.take_add, h1, h2]
def sl (f : Fd) (s : List UInt8) : List UInt8 := (s.drop f.off.toNat).take (mn f.ty * ea f.ty).toNat
theorem sl_iff {f : Fd} {a b : List UInt8} (ha : fIn f a) (hb : fIn f b) : sl f a = sl f b ↔ ((List.range (mn f.ty).toNat).all fun k => decide (elV f a k = elV f b k)) = true := by
  have hm := mn_b ha.1.1
  have hea := ea_b f.ty
  have e1 : (mn f.ty * ea f.ty).toNat = (mn f.ty).toNat * (ea f.ty).toNat := by
    rcases hea with e | e
    · rw [e, show (1 : Int).toNat = 1 from rfl]; omega
    · rw [e, show (4 : Int).toNat = 4 from rfl]; omega
  have he : ∀ s k, elV f s k = leV (chk (ea f.ty).toNat (s.drop f.off.toNat) k) := fun s k => by
    unfold elV chk; rw [List.drop_drop]
  have hlen : ∀ s, fIn f s → ∀ k, k < (mn f.ty).toNat → (chk (ea f.ty).toNat (s.drop f.off.toNat) k).length = (ea f.ty).toNat := fun s hs k hk => by
    have := el_in hs (k := k) (by omega)
    have ho := hs.2.1
    unfold chk
    rw [List.length_take, List.length_drop, List.length_drop]
    rcases hea with e | e <;> rw [e] at this ⊢ <;> simp <;> omega
  simp only [List.all_eq_true, List.mem_range, decide_eq_true_eq]
  constructor
  · intro h k hk
    rw [he, he]
    have hc : ∀ s, fIn f s → chk (ea f.ty).toNat (s.drop f.off.toNat) k = chk (ea f.ty).toNat (sl f s) k := fun s hs => by
      unfold chk sl
      rw [List.drop_take, List.take_take, e1]
      congr 1
      have : k * (ea f.ty).toNat + (ea f.ty).toNat ≤ (mn f.ty).toNat * (ea f.ty).toNat := by
        rw [← Nat.succ_mul]
        exact Nat.mul_le_mul_right _ hk
      omega
    rw [hc a ha, hc b hb, h]
  · intro h
    unfold sl
    rw [e1]
    refine chk_all _ _ _ _ fun k hk => leV_inj _ _ ?_ ?_
    · rw [hlen a ha k hk, hlen b hb k hk]
    · rw [← he, ← he]; exact h k hk
/-! ### The walk -/
def AH (a b : List UInt8) (r : Bool) (L : List (List AVal)) (C : Heap) : Heap := .cells [.str a] :: .cells [.str b] :: .cells [.bool r] :: .cells [.slice L .no] :: .cells [.bool false] :: C
section
variable {a b : List UInt8} {r : Bool} {L : List (List AVal)} {C : Heap} {f : Fd} {c : List AVal}
theorem a_new : anew 7 (AH a b r L []) (.agg [.str [], .int .i64 0, .int .i64 0, .int .i64 0, .bool false, .int .i64 0, .int .i64 0]) = some (.ptr 5 0, AH a b r L [.cells zC]) := (rfl)
theorem a_st : astore 7 (AH a b r L [.cells zC]) (.ptr 5 0) (.agg f.cells) = some (AH a b r L [.cells f.cells]) := (rfl)
theorem a_l0 : aload false 1 (AH a b r L C) (.ptr 0 0) = some (.str a) := (rfl)
theorem a_l1 : aload false 1 (AH a b r L C) (.ptr 1 0) = some (.str b) := (rfl)
theorem a_l2 : aload false 1 (AH a b r L C) (.ptr 2 0) = some (.bool r) := (rfl)
theorem a_s2 {r' : Bool} : astore 1 (AH a b r L C) (.ptr 2 0) (.bool r') = some (AH a b r' L C) := (rfl)
theorem a_l55 : aload false 1 (AH a b r L [.cells f.cells]) (.ptr 5 5) = some (.int .i64 f.off) := (rfl)
theorem a_l53 : aload false 1 (AH a b r L [.cells f.cells]) (.ptr 5 3) = some (.int .i64 f.ty.lab) := (rfl)
theorem a_l51 : aload true 3 (AH a b r L [.cells f.cells]) (.ptr 5 1) = some (.agg [.int .i64 f.ty.elem, .int .i64 f.ty.len, .int .i64 f.ty.lab]) := (rfl)
theorem a_h1 : unhide (lockIds [0, 1] [.ptr 5 5, .ptr 5 1]) (AH a b r L [.cells c]) (hide (lockIds [0, 1] [.ptr 5 5, .ptr 5 1]) (AH a b r L [.cells c])) = AH a b r L [.cells c] := (rfl)
theorem a_h2 : unhide (lockIds [0] [.ptr 5 5]) (AH a b r L [.cells c]) (hide (lockIds [0] [.ptr 5 5]) (AH a b r L [.cells c])) = AH a b r L [.cells c] := (rfl)
theorem a_end : sanBlks 5 (AH a b r L C) (List.take 5 (AH a b r L C)) = some (AH a b r L []) := by
  have : List.take 5 (AH a b r L C) = AH a b r L [] := rfl
  rw [this]
  simp [AH]
end
theorem a_round {f : Fd} {a b : List UInt8} {r : Bool} {L : List (List AVal)} {h38 : Heap} {k : Nat} (h5 : h38.length = 5) (ha : fIn f a) (hb : fIn f b) :
    f12 KK (.ptr 0 0) (.ptr 1 0) (.ptr 2 0) h38 [.int .i64 (k : Int), .agg f.cells] (AH a b r L []) = if f.ty.lab = 0 ∧ ¬ sl f a = sl f b then some (.ret, [], AH a b false L []) else some (.normal, [], AH a b r L []) := by
  have hm := mn_b ha.1.1
  have hr := rm_b ha.1.1
  have h1 := ha.2
  have h2 := hb.2
  have k19 : ∀ h, KK 19 [.agg [.int .i64 f.ty.elem, .int .i64 f.ty.len, .int .i64 f.ty.lab]] h = some (.ret (.int .i64 (mn f.ty)), h) := fun h => by rw [r19, t19_eq]; rfl
  have k29 : ∀ h, KK 29 [.agg [.int .i64 f.ty.elem, .int .i64 f.ty.len, .int .i64 f.ty.lab]] h = some (.ret (.int .i64 (ea f.ty)), h) := fun h => by rw [r29, t29_eq]; rfl
  have hq : 0 < mn f.ty * ea f.ty ∧ mn f.ty * ea f.ty ≤ rm f.ty := ⟨hr.2.2.2, hr.2.2.1⟩
  have e1 : IntKind.wrap .i64 (mn f.ty * ea f.ty) = mn f.ty * ea f.ty := wrap64 (by omega) (by omega)
  have e2 : IntKind.wrap .i64 (f.off + mn f.ty * ea f.ty) = f.off + mn f.ty * ea f.ty := wrap64 (by omega) (by omega)
  have e3 : ∀ s, fIn f s → tsub s (some f.off) (some (f.off + mn f.ty * ea f.ty)) = some (sl f s) := fun s hs => by
    rw [tsub_mid hs.2.1 (by omega) (by have := hs.2.2.1; omega)]
    unfold sl
    congr 2
    have := hs.2.1
    omega
  have e4 := e3 a ha
  have e5 := e3 b hb
  have f5 : afieldAt 5 (.ptr 5 0) = some (.ptr 5 5) := rfl
  have f1 : afieldAt 1 (.ptr 5 0) = some (.ptr 5 1) := rfl
  have f2 : afieldAt 2 (.ptr 5 1) = some (.ptr 5 3) := rfl
  unfold f12
  by_cases hl : f.ty.lab = 0
  · have hd : decide (f.ty.lab = 0) = true := by simp [hl]
    by_cases hs : sl f a = sl f b
    · rw [if_neg (fun h => h.2 hs)]
      simp -implicitDefEqProofs [-anew, -Fd.cells_t, -hide, -unhide, -lockIds, -aload_ptr, -aload_ptrT, -astore_ptr, a_new, a_st, a_l0, a_l1, a_l55, a_l53, a_l51, a_h1, a_h2, a_s2, a_end, h5, k19, k29, e1, e2, e4, e5, f5, f1, f2, hd, hs]
    · rw [if_pos ⟨hl, hs⟩]
      simp -implicitDefEqProofs [-anew, -Fd.cells_t, -hide, -unhide, -lockIds, -aload_ptr, -aload_ptrT, -astore_ptr, a_new, a_st, a_l0, a_l1, a_l55, a_l53, a_l51, a_h1, a_h2, a_s2, a_end, h5, k19, k29, e1, e2, e4, e5, f5, f1, f2, hd, hs]
  · have hd : decide (f.ty.lab = 0) = false := by simp [hl]
    rw [if_neg (fun h => hl h.1)]
    simp -implicitDefEqProofs [-anew, -Fd.cells_t, -hide, -unhide, -lockIds, -aload_ptr, -aload_ptrT, -astore_ptr, a_new, a_st, a_l0, a_l1, a_l55, a_l53, a_l51, a_h1, a_h2, a_s2, a_end, h5, k19, k29, e1, e2, e4, e5, f5, f1, f2, hd]
def agS (a b : List UInt8) (fs : List Fd) : Bool := fs.all fun f => !decide (f.ty.lab = 0) || decide (sl f a = sl f b)
theorem a_run (a b : List UInt8) (L : List (List AVal)) (h38 : Heap) (h5 : h38.length = 5) (hc : ∀ r, ∀ p ∈ [AVal.ptr 3 0, AVal.ptr 4 0], aload false 1 (AH a b r L []) p = aload false 1 h38 p) :
    ∀ (fs : List Fd) (k : Nat), (∀ f ∈ fs, fIn f a ∧ fIn f b) →
    rfL [.ptr 3 0, .ptr 4 0] h38 (f12 KK (.ptr 0 0) (.ptr 1 0) (.ptr 2 0) h38) (rowsK k fs) (AH a b false L []) = some (if agS a b fs = true then .normal else .ret, [], AH a b false L [])
  | [], k, _ => by simp [rowsK, rfL, agS]
  | f :: r, k, hf => by
    have hin := hf f (.head _)
    have hr := a_round (r := false) (L := L) (k := k) h5 hin.1 hin.2
    by_cases hq : f.ty.lab = 0 ∧ ¬ sl f a = sl f b
    · rw [if_pos hq] at hr
      rw [rowsK, rfL_cons_r hr]
      simp [agS, hq.1, hq.2]
    · rw [if_neg hq] at hr
      rw [rowsK, rfL_cons_n hr (fun p hp => hc _ p hp), a_run a b L h38 h5 hc r (k + 1) (fun g hg => hf g (.tail _ hg))]
      have : agS a b (f :: r) = agS a b r := by
        have h1 : (!decide (f.ty.lab = 0) || decide (sl f a = sl f b)) = true := by
          by_cases h : f.ty.lab = 0
          · by_cases h2 : sl f a = sl f b
            · simp [h2]
            · exact absurd ⟨h, h2⟩ hq
          · simp [h]
        simp only [agS, List.all_cons, h1, Bool.true_and]
      rw [this]
theorem agS_eq (a b : List UInt8) : ∀ (fs : List Fd), (∀ f ∈ fs, fIn f a ∧ fIn f b) → agS a b fs = agV a b fs
  | [], _ => rfl
  | f :: r, hf => by
    have h1 := agS_eq a b r (fun g hg => hf g (.tail _ hg))
    have hin := hf f (.head _)
    have h2 := sl_iff hin.1 hin.2
    unfold agS agV at h1 ⊢
    rw [List.all_cons, List.all_cons, h1]
    congr 2
    rw [Bool.eq_iff_iff, decide_eq_true_eq]
    exact h2
theorem c12 (l : List Fd) (a b : List UInt8) (hl : l.length ≤ 1000) (h : Heap) :
    KK 12 [.slice (Rw Fd.cells l) .no, .str a, .str b] h = some (.ret (.bool (agR l a b)), h) := by
  refine callP_pure rfl rfl (evW_by (m12_eq _ _ _ _ _) ?_)
  rw [m12_f]
  obtain ⟨x, y, ht⟩ := t16_v l hl
  have a1 : anew 1 [] (.str a) = some (.ptr 0 0, [.cells [.str a]]) := rfl
  have a2 : anew 1 [.cells [.str a]] (.str b) = some (.ptr 1 0, [.cells [.str a], .cells [.str b]]) := rfl
  have a3 : ∀ r, anew 1 [.cells [.str a], .cells [.str b]] (.bool r) = some (.ptr 2 0, [.cells [.str a], .cells [.str b], .cells [.bool r]]) := fun _ => rfl
  have q1 : ∀ r, aload false 1 [.cells [.str a], .cells [.str b], .cells [.bool r]] (.ptr 0 0) = some (.str a) := fun _ => rfl
  have q2 : ∀ r, aload false 1 [.cells [.str a], .cells [.str b], .cells [.bool r]] (.ptr 1 0) = some (.str b) := fun _ => rfl
  have q3 : ∀ r, aload false 1 [.cells [.str a], .cells [.str b], .cells [.bool r]] (.ptr 2 0) = some (.bool r) := fun _ => rfl
  have q4 : ∀ r r', astore 1 [.cells [.str a], .cells [.str b], .cells [.bool r]] (.ptr 2 0) (.bool r') = some [.cells [.str a], .cells [.str b], .cells [.bool r']] := fun _ _ => rfl
  unfold agR
  cases hv : sizesV l 0 0 with
  | none =>
    rw [hv] at ht
    have k16 : ∀ h, KK 16 [.slice (Rw Fd.cells l) .no] h = some (.ret (.tuple [.int .i64 x, .int .i64 y, .bool false]), h) := fun h => by rw [r16, ht]; rfl
    simp -implicitDefEqProofs [-anew, -hide, -unhide, -lockIds, -aload_ptr, -aload_ptrT, -astore_ptr, n12, a1, a2, a3, k16, q1, q2, q3, q4]
  | some q =>
    rw [hv] at ht
    have k16 : ∀ h, KK 16 [.slice (Rw Fd.cells l) .no] h = some (.ret (.tuple [.int .i64 q.1, .int .i64 q.2, .bool true]), h) := fun h => by rw [r16, ht]; rfl
    by_cases hqa : q.1 = (a.length : Int)
    · have ea1 : decide ((a.length : Int) = q.1) = true := by simp [hqa]
      by_cases hqb : q.1 = (b.length : Int)
      · have eb1 : decide ((b.length : Int) = q.1) = true := by simp [hqb]
        have k18 : KK 18 [.slice (Rw Fd.cells l) .no, .bool false] [.cells [.str a], .cells [.str b], .cells [.bool false]] = some (.ret (.func 35 [] [.ptr 3 0, .ptr 4 0]), AH a b false (Rw Fd.cells l) []) := (c18 _ _ _).trans rfl
        have ha := aiter_eq (l := l) (o := false) (p := 3) (q := 4) (h := AH a b false (Rw Fd.cells l) []) hl rfl rfl
        have hfs : ∀ f ∈ sel false l, fIn f a ∧ fIn f b := fun f hf => ⟨fin_in hv hqa f hf, fin_in hv hqb f hf⟩
        have h1 := a_run a b (Rw Fd.cells l) (AH a b false (Rw Fd.cells l) []) rfl (fun r p hp => by
          simp only [List.mem_cons, List.not_mem_nil, or_false] at hp
          rcases hp with rfl | rfl <;> rfl) (sel false l) 0 hfs
        rw [agS_eq a b _ hfs] at h1
        have d3 : decide (q.1 = (a.length : Int)) = true := by simp [hqa]
        have d4 : decide (q.1 = (b.length : Int)) = true := by simp [hqb]
        cases hg : agV a b (sel false l) with
        | true =>
          rw [hg, if_pos rfl] at h1
          simp -implicitDefEqProofs [-anew, -hide, -unhide, -lockIds, -aload_ptr, -aload_ptrT, -astore_ptr, n12, a1, a2, a3, k16, q1, q2, q3, q4, ea1, eb1, k18, ha, h1, a_s2, a_l2, d3, d4]
        | false =>
          rw [hg, if_neg (by decide)] at h1
          simp -implicitDefEqProofs [-anew, -hide, -unhide, -lockIds, -aload_ptr, -aload_ptrT, -astore_ptr, n12, a1, a2, a3, k16, q1, q2, q3, q4, ea1, eb1, k18, ha, h1, a_s2, a_l2, d3, d4]
      · have eb1 : decide ((b.length : Int) = q.1) = false := by simp; omega
        have d4 : decide (q.1 = (b.length : Int)) = false := by simpa using hqb
        simp -implicitDefEqProofs [-anew, -hide, -unhide, -lockIds, -aload_ptr, -aload_ptrT, -astore_ptr, n12, a1, a2, a3, k16, q1, q2, q3, q4, ea1, eb1, d4]
    · have ea1 : decide ((a.length : Int) = q.1) = false := by simp; omega
      have d3 : decide (q.1 = (a.length : Int)) = false := by simpa using hqa
      simp -implicitDefEqProofs [-anew, -hide, -unhide, -lockIds, -aload_ptr, -aload_ptrT, -astore_ptr, n12, a1, a2, a3, k16, q1, q2, q3, q4, ea1, d3]
end
section
open Go Hk
def I8 (s : List UInt8) : List Int := s.map fun b => (b.toNat : Int)
/-- What is written, and zeros. -/
def St (P : List UInt8) (m : Nat) : List Int := I8 P ++ List.replicate m 0
theorem St_len (P : List UInt8) (m : Nat) : (St P m).length = P.length + m := by simp [St, I8]
def leB : Nat → Int → List UInt8
  | 0, _ => []
  | d + 1, x => UInt8.ofNat (x % 256).toNat :: leB d (x / 256)
theorem leB_len : ∀ (d : Nat) (x : Int), (leB d x).length = d
  | 0, _ => rfl
  | d + 1, x => by simp [leB, leB_len d]
theorem by4_leB (v : Int) {w : Int} (hw : w = 1 ∨ w = 4) : (by4 v).take w.toNat = leB w.toNat (wr v) := by
  have h1 : wr v / 256 / 256 = wr v / 65536 := by omega
  have h2 : wr v / 65536 / 256 = wr v / 16777216 := by omega
  rcases hw with rfl | rfl
  · rfl
  · simp only [show (4 : Int).toNat = 4 from rfl, leB, h1, h2]
    rfl
theorem step4 {r28 : List Fd} {l34 : List Int} {i w : Int} {k j m : Nat} {x : Int} {f : Fd} {P : List UInt8} (hi : tidx r28 i = some f) (hx : 0 ≤ x) (hx2 : x ≤ 4294967295) (hw : w = 1 ∨ w = 4) (hj : (j : Int) < w)
    (hP : (P.length : Int) = f.off + (k : Int) * w + (j : Int)) (hN : P.length + (m + 1) = l34.length) (hl : l34.length ≤ 70000) (ho : 0 ≤ f.off) (hk : k ≤ 20000) :
    t8_l4 r28 l34 i w (k : Int) (x, (j : Int), St P (m + 1)) = some (.n, (x / 256, ((j + 1 : Nat) : Int), St (P ++ [UInt8.ofNat (x % 256).toNat]) m)) := by
  have hkw : 0 ≤ (k : Int) * w := by rcases hw with rfl | rfl <;> omega
  unfold t8_l4
  generalize (k : Int) * w = kw at *
  have e1 : IntKind.wrap .i64 (IntKind.wrap .i64 (f.off + IntKind.wrap .i64 kw) + (j : Int)) = (P.length : Int) := by
    rw [wrap64 (n := kw) (by omega) (by omega), wrap64 (n := f.off + kw) (by omega) (by omega), wrap64 (by omega) (by omega)]
    omega
  have e2 : trem x 256 = some (x % 256) := by unfold trem; rw [if_neg (by decide), Int.tmod_eq_emod_of_nonneg hx]
  have e3 : tin l34.length (P.length : Int) = some P.length := by unfold tin; rw [if_pos (by omega)]; simp
  have e4 : ∃ z, tvg l34.length (St P (m + 1)) P.length = some z := by
    unfold tvg
    rw [if_pos (by rw [St_len]; omega)]
    exact ⟨_, List.getElem?_eq_getElem (by rw [St_len]; omega)⟩
  obtain ⟨z, e4⟩ := e4
  have e5 : IntKind.wrap .u8 (x % 256) = x % 256 := by
    have : IntKind.wrap .u8 (x % 256) = x % 256 % 256 := rfl
    rw [this]; omega
  have hb : (UInt8.ofNat (x % 256).toNat).toNat = (x % 256).toNat := by
    rw [UInt8.toNat_ofNat']
    exact Nat.mod_eq_of_lt (by omega)
  have e6 : tvs l34.length (St P (m + 1)) P.length (x % 256) = some (St (P ++ [UInt8.ofNat (x % 256).toNat]) m) := by
    unfold tvs
    rw [if_pos ⟨by rw [St_len]; omega, by rw [St_len]; omega⟩]
    congr 1
    have hlen : P.length = (I8 P).length := by simp [I8]
    unfold St
    rw [hlen, List.set_append_right _ _ (Nat.le_refl _), Nat.sub_self, List.replicate_succ, List.set_cons_zero]
    simp only [I8, List.map_append, List.map_cons, List.map_nil, hb, List.append_assoc, List.cons_append, List.nil_append]
    congr 2
    omega
  have e7 : tquo .i64 x 256 = some (x / 256) := by
    unfold tquo
    rw [if_neg (by decide), Int.tdiv_eq_ediv_of_nonneg hx, wrap64 (by omega) (by omega)]
  have e8 : IntKind.wrap .i64 ((j : Int) + 1) = ((j + 1 : Nat) : Int) := by rw [wrap64 (by omega) (by omega)]; omega
  have e9 : decide ((j : Int) < w) = true := by simpa using hj
  simp only [e9, tc_true, hi, tb_some, e2, e1, e3, e4, e5, e6, e7, e8]
theorem run4 {r28 : List Fd} {l34 : List Int} {i w : Int} {k m : Nat} {f : Fd} (hi : tidx r28 i = some f) (hw : w = 1 ∨ w = 4) (hl : l34.length ≤ 70000) (ho : 0 ≤ f.off) (hk : k ≤ 20000) :
    ∀ (d j : Nat) (x : Int) (P : List UInt8), ((j + d : Nat) : Int) = w → 0 ≤ x → x ≤ 4294967295 → (P.length : Int) = f.off + (k : Int) * w + (j : Int) → P.length + (m + d) = l34.length →
    ∃ y, lpT (t8_l4 r28 l34 i w (k : Int)) (x, (j : Int), St P (m + d)) = some (.x 4, (y, w, St (P ++ leB d x) m))
  | 0, j, x, P, hj, _, _, _, _ => by
    refine ⟨x, ?_⟩
    have hj' : (j : Int) = w := by omega
    rw [hj']
    have hx : t8_l4 r28 l34 i w (k : Int) (x, w, St P (m + 0)) = some (.x 4, (x, w, St P (m + 0))) := by unfold t8_l4; simp
    rw [lpT_out hx (by simp)]
    simp [leB]
  | d + 1, j, x, P, hj, h0, h1, hP, hN => by
    rw [show m + (d + 1) = (m + d) + 1 from by omega, lpT_go (step4 hi h0 h1 hw (by omega) hP (by omega) hl ho hk)]
    obtain ⟨y, e⟩ := run4 (m := m) hi hw hl ho hk d (j + 1) (x / 256) (P ++ [UInt8.ofNat (x % 256).toNat]) (by omega) (by omega) (by omega) (by simp; omega) (by simp; omega)
    exact ⟨y, e.trans (by simp [leB])⟩
theorem step5 {vals : List (List Int)} {r28 : List Fd} {l34 : List Int} {i : Int} {k m : Nat} {f : Fd} {v : List Int} {x : Int} {P : List UInt8} (hi : tidx r28 i = some f) (hv : tidx vals i = some v) (hk : v[k]? = some x) (hl : l34.length ≤ 70000) (ho : 0 ≤ f.off) (hvl : v.length ≤ 20000)
    (hP : (P.length : Int) = f.off + (k : Int) * ea f.ty) (hN : P.length + (m + (ea f.ty).toNat) = l34.length) :
    t8_l5 vals r28 l34 i (ea f.ty) ((k : Int), St P (m + (ea f.ty).toNat)) = some (.n, (((k + 1 : Nat) : Int), St (P ++ (by4 x).take (ea f.ty).toNat) m)) := by
  have hea := ea_b f.ty
  obtain ⟨hkl, _⟩ := List.getElem?_eq_some_iff.1 hk
  have e1 : tidx v (k : Int) = some x := by unfold tidx; rw [if_pos (by omega)]; simpa using hk
  obtain ⟨y, e2⟩ := run4 (r28 := r28) (l34 := l34) (i := i) (k := k) (m := m) hi hea hl ho (by omega) (ea f.ty).toNat 0 (wr x) P (by omega) (by unfold wr; omega) (by unfold wr; omega) (by omega) hN
  rw [show ((0 : Nat) : Int) = 0 from rfl] at e2
  have e3 : IntKind.wrap .i64 ((k : Int) + 1) = ((k + 1 : Nat) : Int) := by rw [wrap64 (by omega) (by omega)]; omega
  have e4 : decide ((k : Int) < (v.length : Int)) = true := by simp; omega
  unfold t8_l5 t8_b2
  simp only [hv, tb_some, e4, tc_true, e1, t26_eq, e2, exT_exit, ibT_exit, beq_self_eq_true, cond_true, ibT_normal, e3]
  rw [by4_leB x hea]
theorem run5 {vals : List (List Int)} {r28 : List Fd} {l34 : List Int} {i : Int} {m : Nat} {f : Fd} {v : List Int} (hi : tidx r28 i = some f) (hv : tidx vals i = some v) (hl : l34.length ≤ 70000) (ho : 0 ≤ f.off) (hvl : v.length ≤ 20000) :
    ∀ (r q : List Int) (P : List UInt8), v = q ++ r → (P.length : Int) = f.off + (q.length : Int) * ea f.ty → P.length + (m + r.length * (ea f.ty).toNat) = l34.length →
    lpT (t8_l5 vals r28 l34 i (ea f.ty)) ((q.length : Int), St P (m + r.length * (ea f.ty).toNat)) = some (.x 2, ((v.length : Int), St (P ++ elS f r) m))
  | [], q, P, h, _, _ => by
    have : v = q := by simpa using h
    subst this
    have hx : t8_l5 vals r28 l34 i (ea f.ty) ((v.length : Int), St P (m + ([] : List Int).length * (ea f.ty).toNat)) = some (.x 2, ((v.length : Int), St P (m + ([] : List Int).length * (ea f.ty).toNat))) := by unfold t8_l5; simp [hv]
    rw [lpT_out hx (by simp)]
    simp [elS]
  | x :: r, q, P, h, hP, hN => by
    have hk : v[q.length]? = some x := by subst h; simp
    have hea := ea_b f.ty
    have h4 : ((by4 x).take (ea f.ty).toNat).length = (ea f.ty).toNat := by rw [List.length_take, by4_len]; omega
    have e : m + (x :: r).length * (ea f.ty).toNat = (m + r.length * (ea f.ty).toNat) + (ea f.ty).toNat := by rw [List.length_cons, Nat.succ_mul]; omega
    rw [e] at hN ⊢
    rw [lpT_go (step5 hi hv hk hl ho hvl hP hN)]
    have := run5 (m := m) hi hv hl ho hvl r (q ++ [x]) (P ++ (by4 x).take (ea f.ty).toNat) (by simpa using h) (by
      rw [List.length_append, h4, List.length_append]
      simp only [List.length_cons, List.length_nil]
      rcases hea with e | e <;> rw [e] at hP ⊢
      · rw [show (1 : Int).toNat = 1 from rfl]; omega
      · rw [show (4 : Int).toNat = 4 from rfl]; omega) (by rw [List.length_append, h4]; omega)
    rw [List.length_append] at this
    simp only [List.length_cons, List.length_nil, Nat.zero_add] at this
    rw [this]
    simp [elS]
theorem I8_zeros (P : List UInt8) (n m : Nat) : St (P ++ List.replicate n 0) m = St P (n + m) := by
  unfold St I8
  rw [List.map_append, List.map_replicate, List.append_assoc]
  congr 1
  exact List.replicate_append_replicate
/-- The fields that go in lie one behind the other. -/
def chain : List Fd → Int → Int → Prop
  | [], a, n => a = n
  | f :: r, a, n => f.off = a ∧ chain r (a + f.size) n
theorem chain_of : ∀ (l : List Fd) (a b : Int) (q : Int × Int), sizesV l a b = some q → chain (sel false l) a q.1
  | [], a, b, q, h => by
    simp only [sizesV, Option.some.injEq] at h
    subst h
    rfl
  | f :: r, a, b, q, h => by
    have hv := sizesV_cons f r a b
    by_cases hg : goodB f a b
    · rw [hv.1 hg] at h
      have h1 := chain_of r _ _ q h
      cases ho : f.out with
      | true => simpa [sel, ho] using h1
      | false =>
        have h2 := hg.2.1
        have h3 := hg.2.2.1
        simp only [ho, Bool.false_eq_true, if_false] at h1 h2
        have : sel false (f :: r) = f :: sel false r := by simp [sel, ho]
        rw [this]
        exact ⟨h2, by rw [h3]; exact h1⟩
    · rw [hv.2 hg] at h; cases h
theorem chain_le : ∀ (l : List Fd) (a n : Int), (∀ f ∈ l, fOk f) → chain l a n → a ≤ n
  | [], a, n, _, h => by cases h; exact Int.le_refl _
  | f :: r, a, n, hf, h => by
    have h1 := chain_le r _ n (fun g hg => hf g (.tail _ hg)) h.2
    have hr := rm_b (hf f (.head _)).1
    have := (hf f (.head _)).2
    omega
theorem run6 {vals : List (List Int)} {r28 : List Fd} {l34 : List Int} (hl : l34.length ≤ 70000) (hlen : vals.length ≤ 1000) :
    ∀ (fr fp : List Fd) (vr vp : List (List Int)) (P : List UInt8) (m : Nat), r28 = fp ++ fr → vals = vp ++ vr → fp.length = vp.length → fr.length = vr.length → (∀ f ∈ fr, fOk f) → chain fr (P.length : Int) (l34.length : Int) → P.length + m = l34.length →
    ∃ e : Ey × Int × Int × List Int, lpT (t8_l6 vals r28 l34) (0, (vp.length : Int), St P m) = some e ∧ (match goF fr vr with | some S => e.1 = .x 0 ∧ e.2.2.2 = St (P ++ S) 0 | none => e.1 = .r ∧ e.2.1 = 16)
  | [], fp, [], vp, P, m, _, hv, _, _, _, hc, hN => by
    have : vals = vp := by simpa using hv
    subst this
    have hx : t8_l6 vals r28 l34 (0, (vals.length : Int), St P m) = some (.x 0, (0, (vals.length : Int), St P m)) := by unfold t8_l6; simp
    refine ⟨_, lpT_out hx (by simp), ?_⟩
    have hc' : (P.length : Int) = (l34.length : Int) := hc
    have : m = 0 := by omega
    subst this
    simp [goF]
  | f :: fr, fp, v :: vr, vp, P, m, hf, hv, hfv, hlr, hok, hc, hN => by
    have hfk := hok f (.head _)
    have hr := rm_b hfk.1
    have hm := mn_b hfk.1
    have hi : tidx r28 (vp.length : Int) = some f := by subst hf; exact tidx_mid (by rw [hfv])
    have hiv : tidx vals (vp.length : Int) = some v := by subst hv; exact tidx_mid rfl
    have hvl : vals.length = vp.length + (vr.length + 1) := by subst hv; simp
    have e4 : IntKind.wrap .i64 ((vp.length : Int) + 1) = (((vp ++ [v]).length : Nat) : Int) := by rw [wrap64 (by omega) (by omega)]; simp
    have e5 : decide ((vp.length : Int) < (vals.length : Int)) = true := by simp; omega
    have hcl := chain_le fr _ _ (fun g hg => hok g (.tail _ hg)) hc.2
    have hoff : f.off = (P.length : Int) := hc.1
    by_cases hn : (v.length : Int) = mn f.ty
    · have hz : (v.length : Int) * ea f.ty ≤ f.size := by rw [hn, hfk.2]; exact hr.2.2.1
      have hfl := fieldS_len f v hz
      have hel := elS_len f v
      have hea := ea_b f.ty
      have hsz : f.size = rm f.ty := hfk.2
      have hce : (v.length * (ea f.ty).toNat : Nat) = (elS f v).length := by
        rcases hea with e | e <;> rw [e] at hel ⊢
        · rw [show (1 : Int).toNat = 1 from rfl]; omega
        · rw [show (4 : Int).toNat = 4 from rfl]; omega
      have hfl2 : (fieldS f v).length = (elS f v).length + (f.size - ((elS f v).length : Int)).toNat := by unfold fieldS; simp
      have hm2 : m = ((m - (fieldS f v).length) + (f.size - ((elS f v).length : Int)).toNat) + v.length * (ea f.ty).toNat := by omega
      have h5 := run5 (vals := vals) (r28 := r28) (l34 := l34) (i := (vp.length : Int)) (m := (m - (fieldS f v).length) + (f.size - ((elS f v).length : Int)).toNat) (f := f) (v := v) hi hiv hl (by omega) (by omega) v [] P rfl (by simp; omega) (by omega)
      rw [← hm2, List.length_nil, show ((0 : Nat) : Int) = 0 from rfl] at h5
      have hst : St (P ++ elS f v) ((m - (fieldS f v).length) + (f.size - ((elS f v).length : Int)).toNat) = St (P ++ fieldS f v) (m - (fieldS f v).length) := by
        unfold fieldS
        rw [← List.append_assoc, I8_zeros, Nat.add_comm]
      rw [hst] at h5
      have hd : decide ((v.length : Int) = mn f.ty) = true := by simp [hn]
      have hgo : t8_l6 vals r28 l34 (0, (vp.length : Int), St P m) = some (.n, (0, (((vp ++ [v]).length : Nat) : Int), St (P ++ fieldS f v) (m - (fieldS f v).length))) := by
        unfold t8_l6 t8_b1
        simp only [e5, tc_true, hiv, hi, tb_some, t24_eq hfk.1, hd, Bool.not_true, tc_false, t25_eq, h5, exT_exit, ibT_exit, beq_self_eq_true, cond_true, ibT_normal, e4]
      rw [lpT_go hgo]
      obtain ⟨e, k1, k2⟩ := run6 hl hlen fr (fp ++ [f]) vr (vp ++ [v]) (P ++ fieldS f v) (m - (fieldS f v).length) (by simpa using hf) (by simpa using hv) (by simp [hfv]) (by simpa using hlr) (fun g hg => hok g (.tail _ hg)) (by
        have := hc.2
        rw [List.length_append]
        have e : (((P.length + (fieldS f v).length : Nat)) : Int) = (P.length : Int) + f.size := by omega
        rw [e]; exact this) (by rw [List.length_append]; omega)
      refine ⟨e, k1, ?_⟩
      rw [goF, if_pos hn]
      cases hg : goF fr vr with
      | none => rw [hg] at k2; exact k2
      | some S =>
        rw [hg] at k2
        refine ⟨k2.1, k2.2.trans ?_⟩
        rw [List.append_assoc]
    · have hd : decide ((v.length : Int) = mn f.ty) = false := by simp [hn]
      have hgo : t8_l6 vals r28 l34 (0, (vp.length : Int), St P m) = some (.r, (16, (vp.length : Int), St P m)) := by
        unfold t8_l6 t8_b1
        simp only [e5, tc_true, hiv, hi, tb_some, t24_eq hfk.1, hd, Bool.not_false, ibT_ret]
      refine ⟨_, lpT_out hgo (by simp), ?_⟩
      rw [goF, if_neg hn]
      exact ⟨rfl, rfl⟩
theorem tbys_St (s : List UInt8) : tbys s.length (St s 0) = some s := by
  have h : (I8 s).map (fun z => UInt8.ofNat z.toNat) = s := by
    induction s with
    | nil => rfl
    | cons b r ih =>
      simp only [I8, List.map_cons] at ih ⊢
      rw [ih]
      simp
  unfold tbys St
  rw [if_pos (by simp [I8])]
  simp only [List.replicate_zero, List.append_nil, h]
theorem goF_len : ∀ (fs : List Fd) (vs : List (List Int)) (S : List UInt8) (a n : Int), (∀ f ∈ fs, fOk f) → goF fs vs = some S → chain fs a n → (S.length : Int) = n - a
  | [], _, S, a, n, _, h, hc => by
    simp only [goF, Option.some.injEq] at h
    subst h
    cases hc
    simp
  | f :: r, [], S, a, n, _, h, _ => by cases h
  | f :: r, v :: vs, S, a, n, hf, h, hc => by
    rw [goF] at h
    split at h
    · rename_i hn
      cases hg : goF r vs with
      | none => rw [hg] at h; cases h
      | some T =>
        rw [hg] at h
        simp only [Option.map_some, Option.some.injEq] at h
        subst h
        have hfk := hf f (.head _)
        have hr := rm_b hfk.1
        have hz : (v.length : Int) * ea f.ty ≤ f.size := by rw [hn, hfk.2]; exact hr.2.2.1
        have h1 := goF_len r vs T (a + f.size) n (fun g hg => hf g (.tail _ hg)) hg hc.2
        have h2 := fieldS_len f v hz
        rw [List.length_append]
        omega
    · cases h
theorem t8_eq (l : List Fd) (vals : List (List Int)) (hl : l.length ≤ 1000) : t8 l vals = some (packR l vals) := by
  unfold t8 packR
  rw [t6_eq l hl, t23_eq l hl]
  cases hv : sizesV l 0 0 with
  | none => simp
  | some q =>
    obtain ⟨k1, k2, k3, k4, k5⟩ := sizesV_in l 0 0 q hv (by decide) (by decide) (by decide) (by decide)
    have hn : decide (q.1 < 0) = false := by simp; omega
    have hsl := sel_len (o := false) (l := l)
    have hok : ∀ f ∈ sel false l, fOk f := fun f hf => sizesV_ok l 0 0 q hv f (sel_mem hf).1
    have hch := chain_of l 0 0 q hv
    simp only [tb_some, Option.getD_some, hn, tc_false]
    by_cases hq : (sel false l).length = vals.length
    · have hd : decide (((sel false l).length : Int) = (vals.length : Int)) = true := by simp [hq]
      have e1 : tmk 1 (0 : Int) q.1 = some (St [] q.1.toNat) := by
        unfold tmk
        rw [if_pos ⟨by omega, by omega, by omega⟩]
        rfl
      have hlen : (St [] q.1.toNat).length = q.1.toNat := by simp [St_len]
      obtain ⟨⟨e, x, y, z⟩, h1, h2⟩ := run6 (vals := vals) (r28 := sel false l) (l34 := St [] q.1.toNat) (by omega) (by omega) (sel false l) [] vals [] [] q.1.toNat rfl rfl rfl hq hok (by
        rw [hlen]
        have e : ((q.1.toNat : Nat) : Int) = q.1 := by omega
        rw [e]; exact hch) (by simp [hlen])
      rw [List.length_nil, show ((0 : Nat) : Int) = 0 from rfl] at h1
      simp only [hd, Bool.not_true, tc_false, e1, tb_some, h1]
      cases hg : goF (sel false l) vals with
      | none =>
        rw [hg] at h2
        obtain ⟨rfl, h3⟩ := h2
        simp only at h3
        subst h3
        simp
      | some S =>
        rw [hg] at h2
        obtain ⟨rfl, h3⟩ := h2
        simp only at h3
        subst h3
        have hS := goF_len _ _ S 0 q.1 hok hg hch
        have e2 : tbys (St [] q.1.toNat).length (St ([] ++ S) 0) = some S := by
          rw [hlen, show q.1.toNat = S.length from by omega]
          exact tbys_St S
        simp only [exT_exit, ibT_exit, beq_self_eq_true, cond_true, e2, tb_some, if_pos hq]
    · have hd : decide (((sel false l).length : Int) = (vals.length : Int)) = false := by simp; omega
      simp only [hd, Bool.not_false, tc_true]
      cases goF (sel false l) vals with
      | none => rfl
      | some S => simp [hq]
end
section
open Go Hk
theorem t5_eq (l : List Fd) (hl : l.length ≤ 1000) : t5 l = some (match sizesV l 0 0 with | some q => (q.1, q.2) | none => (0, 0)) := by
  obtain ⟨x, y, ht⟩ := t16_v l hl
  unfold t5
  rw [ht]
  cases hv : sizesV l 0 0 <;> simp
theorem unR_len (l : List Fd) (s : List UInt8) (hl : l.length ≤ 1000) : (unR l s).1.length ≤ 1000 ∧ ∀ v ∈ (unR l s).1, v.length ≤ 20000 := by
  have h0 : (∃ q, sizesV l 0 0 = some q ∧ (unR l s).1 = unV s l) ∨ (unR l s).1 = [] := by
    unfold unR
    cases hv : sizesV l 0 0 with
    | none => exact .inr rfl
    | some q =>
      by_cases hq : q.2 = (s.length : Int)
      · exact .inl ⟨q, rfl, by simp [hq]⟩
      · exact .inr (by simp [hq])
  rcases h0 with ⟨q, hv, e⟩ | e
  · rw [e]
    have hsl := sel_len (o := true) (l := l)
    refine ⟨by unfold unV; rw [List.length_map]; omega, fun v hm => ?_⟩
    obtain ⟨f, hf, rfl⟩ := List.mem_map.1 hm
    have hm := mn_b (sizesV_ok l 0 0 q hv f (sel_mem hf).1).1
    unfold elsV
    rw [List.length_map, List.length_range]
    omega
  · rw [e]; simp
theorem c3 (k4 : ∀ h, KK 4 [] h = some (.ret (.bool true), h)) (l : List Fd) (vals : List (List Int)) (s t : List UInt8) (h : Heap) :
    KK 3 [.slice (Rw Fd.cells l) .no, .slice (VV vals) .no, .str s, .str t] h = some (.ret (.bool true), h) := by
  refine callP_pure rfl rfl (evW_by (m3_eq _ _ _ _ _ _) ?_)
  by_cases hl : l.length ≤ 100
  · have hl' : l.length ≤ 1000 := by omega
    have hd : decide ((100 : Int) < (l.length : Int)) = false := by simp; omega
    have hd' : decide (100 < l.length) = false := by simp; omega
    have k6 : ∀ h, KK 6 [.slice (Rw Fd.cells l) .no] h = some (.ret (.tuple [.int .i64 ((sizesV l 0 0).getD (-1, -1)).1, .int .i64 ((sizesV l 0 0).getD (-1, -1)).2]), h) := fun h => (r6 l h).trans (by rw [t6_eq l hl']; rfl)
    have k5 : ∀ h, KK 5 [.slice (Rw Fd.cells l) .no] h = some (.ret (.tuple [.int .i64 (max 0 ((sizesV l 0 0).getD (-1, -1)).1), .int .i64 (max 0 ((sizesV l 0 0).getD (-1, -1)).2)]), h) := fun h => (r5 l h).trans (by
      rw [t5_eq l hl']
      cases hv : sizesV l 0 0 with
      | none => rfl
      | some q =>
        obtain ⟨k1, k2, _⟩ := sizesV_in l 0 0 q hv (by decide) (by decide) (by decide) (by decide)
        simp only [tm_some, Option.getD_some]
        rw [Int.max_eq_right k1, Int.max_eq_right k2])
    have k7 := c7 l vals hl'
    have k8 : ∀ h, KK 8 [.slice (Rw Fd.cells l) .no, .slice (VV vals) .no] h = some (.ret (.tuple [.str (packR l vals).1, .int .i64 (packR l vals).2]), h) := fun h => (r8 l vals h).trans (by rw [t8_eq l vals hl']; rfl)
    have k9 := c9 l t hl'
    have k10 : ∀ h, KK 10 [.slice (Rw Fd.cells l) .no, .str t] h = some (.ret (.tuple [.slice (VV (unR l t).1) .no, .int .i64 (unR l t).2]), h) := fun h => (r10 l t h).trans (by rw [t10_eq l t hl']; rfl)
    have hu := unR_len l t hl'
    have k11 : ∀ h, KK 11 [.slice (VV (unR l t).1) .no, .slice (VV (unR l t).1) .no] h = some (.ret (.bool true), h) := fun h => (r11 (unR l t).1 (unR l t).1 h).trans (by rw [t11_eq _ hu.1 hu.2]; rfl)
    have k12 := c12 l s t hl'
    have k13 : ∀ h, KK 13 [.slice (Rw Fd.cells l) .no, .str s, .str t] h = some (.ret (.bool (agR l s t)), h) := fun h => (r13 l s t h).trans (by rw [t13_eq l s t hl']; rfl)
    generalize (sizesV l 0 0).getD (-1, -1) = z at *
    generalize packR l vals = pr at *
    generalize unR l t = ur at *
    generalize agR l s t = ar at *
    simp -implicitDefEqProofs [m3, hd, hd', k5, k6, k7, k8, k9, k10, k11, k12, k13, k4]
  · have hd : decide ((100 : Int) < (l.length : Int)) = true := by simp; omega
    have hd' : decide (100 < l.length) = true := by simp; omega
    simp -implicitDefEqProofs [m3, hd, hd', k4]
end
section
open Go Hk
theorem law3 (l : List Fd) (v : List (List Int)) (s t : List UInt8) : evW Tryz.prog ann 3 [.slice (l.map Fd.cells) .no, .slice (v.map fun y => [.slice (y.map fun z => [.int .i64 z]) .no]) .no, .str s, .str t] [] = some (.ret (.bool true), []) := of_KK rfl (c3 k4 l v s t [])
end
end Go.Proofs.YtckbkcjhalimpabGreatDoor

/-
  LeakFirst answers true for any two lists of events, by the evaluator: no conditions but that a list has at most 2^63-1 elements, as every slice has.
-/
import Derived.Test.YtkeoalhglkfbkaaM
set_option linter.unusedVariables false
set_option linter.unusedSimpArgs false
namespace Go.Proofs.Ytkeoalhglkfbkaa
open Go Hk

structure Event where
  kind : Int
  pc : Int
  addr : Int
  cycles : Int
  deriving DecidableEq
def Event.cells (e : Event) : List AVal := [.int .i64 e.kind, .int .i64 e.pc, .int .i64 e.addr, .int .i64 e.cycles]
def evs (l : List Event) : AVal := .slice (l.map Event.cells) .no

/-- Where two lists differ first. -/
def diff : List Event → List Event → Option Nat
  | [], [] => none
  | x :: xs, y :: ys => if x = y then (diff xs ys).map (· + 1) else some 0
  | _, _ => some 0
def diffI (a b : List Event) : Int := match diff a b with | some n => n | none => -1

theorem aeq_event (x y : Event) : aeqAgg [.i, .i, .i, .i] (.agg x.cells) (.agg y.cells) = some (decide (x = y)) := by
  obtain ⟨a, b, c, d⟩ := x
  obtain ⟨a', b', c', d'⟩ := y
  by_cases h1 : a = a' <;> by_cases h2 : b = b' <;> by_cases h3 : c = c' <;> by_cases h4 : d = d' <;> simp [Event.cells, aeqAgg, aeqAll, aeqK, h1, h2, h3, h4]

theorem drop_diff (a b : List Event) (i : Nat) (h : i ≤ min a.length b.length) (he : a.take i = b.take i) : diff a b = (diff (a.drop i) (b.drop i)).map (· + i) := by
  induction i generalizing a b with
  | zero => simp
  | succ i ih =>
    cases a with
    | nil => simp at h
    | cons x xs => cases b with
      | nil => simp at h
      | cons y ys =>
        simp at he h
        simp only [diff, he.1, if_true, List.drop_succ_cons]
        rw [ih xs ys (by omega) he.2, Option.map_map]
        rfl

theorem ev_len (e : Event) : e.cells.length = 4 := rfl
theorem ev_take (e : Event) : e.cells.take 4 = e.cells := rfl
/-- The program's search. -/
theorem m7_loop (K : CallO) (a b : List Event) (hn : a.length ≤ 9223372036854775807) (i : Nat) (hi : i ≤ min a.length b.length) (he : a.take i = b.take i) (r : AVal) (hr : r = .int .i64 0) :
    lpW (m7_l0 K 0) ([evs a, evs b, r, .int .i64 (min a.length b.length : Nat), .int .i64 i], []) =
      some (match diff (a.take (min a.length b.length)) (b.take (min a.length b.length)) with
        | some n => (.ret, [evs a, evs b, .int .i64 n, .int .i64 (min a.length b.length : Nat), .int .i64 n], [])
        | none => (.exit 0, [evs a, evs b, r, .int .i64 (min a.length b.length : Nat), .int .i64 (min a.length b.length : Nat)], [])) := by
  subst hr
  generalize hN : min a.length b.length = N at *
  refine lpW_measure (σ := Nat) (fun i => ([evs a, evs b, .int .i64 0, .int .i64 N, .int .i64 i], [])) (fun i => i ≤ N ∧ a.take i = b.take i) (fun i => N - i) (fun _ => _) ?_ i ⟨hi, he⟩
  intro i ⟨hi, he⟩
  by_cases hlt : i < N
  · have ha : a[i]? = some a[i] := List.getElem?_eq_getElem (by omega)
    have hb : b[i]? = some b[i] := List.getElem?_eq_getElem (by omega)
    have hd : diff (a.take N) (b.take N) = (diff ((a.take N).drop i) ((b.take N).drop i)).map (· + i) := drop_diff _ _ _ (by simp; omega) (by simp [List.take_take, Nat.min_eq_left hi, he])
    have e1 : (a.take N).drop i = a[i] :: (a.take N).drop (i + 1) := by rw [List.drop_eq_getElem_cons (by simp; omega)]; simp
    have e2 : (b.take N).drop i = b[i] :: (b.take N).drop (i + 1) := by rw [List.drop_eq_getElem_cons (by simp; omega)]; simp
    by_cases hq : a[i] = b[i]
    · left
      refine ⟨i + 1, ?_, ⟨by omega, ?_⟩, by omega, rfl⟩
      · have w : IntKind.wrap .i64 ((i : Int) + 1) = ((i + 1 : Nat) : Int) := by rw [wrap64] <;> omega
        simp [m7_l0, evs, hlt, ha, hb, ev_len, ev_take, aeq_event, hq, endR_zero, w]
      · rw [List.take_add_one, List.take_add_one, he, ha, hb, hq]
    · right
      have hdd : diff (a.take N) (b.take N) = some i := by rw [hd, e1, e2]; simp [diff, hq]
      rw [hdd]
      refine ⟨?_, by simp⟩
      simp [m7_l0, evs, hlt, ha, hb, ev_len, ev_take, aeq_event, hq, endR_zero]
  · right
    obtain rfl : i = N := by omega
    have hdd : diff (a.take i) (b.take i) = none := by
      rw [he]
      generalize b.take i = l
      induction l with
      | nil => rfl
      | cons x xs ih => simp [diff, ih]
    rw [hdd]
    refine ⟨?_, by simp⟩
    simp [m7_l0, evs, endR_zero]


theorem diff_take (a b : List Event) : diff a b = match diff (a.take (min a.length b.length)) (b.take (min a.length b.length)) with
    | some n => some n
    | none => if a.length = b.length then none else some (min a.length b.length) := by
  induction a generalizing b with
  | nil => cases b <;> simp [diff]
  | cons x xs ih =>
    cases b with
    | nil => simp [diff]
    | cons y ys =>
      have e : min (x :: xs).length (y :: ys).length = min xs.length ys.length + 1 := by simp only [List.length_cons]; omega
      rw [e]
      simp only [List.take_succ_cons, diff]
      by_cases h : x = y
      · simp only [h, if_true]
        rw [ih ys]
        cases diff (xs.take (min xs.length ys.length)) (ys.take (min xs.length ys.length)) with
        | some n => rfl
        | none => by_cases hl : xs.length = ys.length <;> simp [hl]
      · simp [h]

theorem m7_spec (K : CallO) (a b : List Event) (hn : a.length ≤ 9223372036854775807) (hm : b.length ≤ 9223372036854775807) : m7 K (evs a) (evs b) [] = some (.ret (.int .i64 (diffI a b)), []) := by
  have hl := m7_loop K a b hn 0 (by omega) (by simp) (.int .i64 0) rfl
  have hd := diff_take a b
  simp only [evs] at hl
  have hmin : min (a.length : Int) (b.length : Int) = ((min a.length b.length : Nat) : Int) := by omega
  simp only [m7, evs, alenSl_slice, Option.bind_some, amin2_int, List.length_map, hmin, List.length_nil]
  simp only [Int.ofNat_eq_natCast, Int.cast_ofNat_Int] at hl
  rw [hl]
  cases hdd : diff (a.take (min a.length b.length)) (b.take (min a.length b.length)) with
  | some n =>
    rw [hdd] at hd
    simp [diffI, hd, finR_zero]
  | none =>
    rw [hdd] at hd
    by_cases hq : a.length = b.length
    · simp [diffI, hd, hq, finR_zero]
    · have hq' : ¬ ((a.length : Int) = b.length) := by omega
      simp only [diffI, hd, hq, if_false]
      simp [finR_zero, hq', hmin]

theorem diff_self (l : List Event) : diff l l = none := by
  induction l with
  | nil => rfl
  | cons x xs ih => simp [diff, ih]

/-- The document's search. -/
theorem m5_loop (K : CallO) (a b : List Event) (hn : a.length ≤ 9223372036854775807) (hm : b.length ≤ 9223372036854775807) :
    lpW (m5_l0 K 0) ([evs a, evs b, .int .i64 0, .int .i64 (0 : Nat)], []) =
      some (match diff a b with
        | some n => (.ret, [evs a, evs b, .int .i64 n, .int .i64 n], [])
        | none => (.exit 0, [evs a, evs b, .int .i64 0, .int .i64 a.length], [])) := by
  refine lpW_measure (σ := Nat) (fun i => ([evs a, evs b, .int .i64 0, .int .i64 i], [])) (fun i => i ≤ a.length ∧ i ≤ b.length ∧ a.take i = b.take i) (fun i => a.length - i) (fun _ => _) ?_ 0 (by simp)
  intro i ⟨hi, hj, he⟩
  have hd : diff a b = (diff (a.drop i) (b.drop i)).map (· + i) := drop_diff _ _ _ (by omega) he
  by_cases h1 : i < a.length <;> by_cases h2 : i < b.length
  · have ha : a[i]? = some a[i] := List.getElem?_eq_getElem h1
    have hb : b[i]? = some b[i] := List.getElem?_eq_getElem h2
    have e1 : a.drop i = a[i] :: a.drop (i + 1) := List.drop_eq_getElem_cons h1
    have e2 : b.drop i = b[i] :: b.drop (i + 1) := List.drop_eq_getElem_cons h2
    have h1' : ¬ a.length ≤ i := by omega
    have h2' : ¬ b.length ≤ i := by omega
    by_cases hq : a[i] = b[i]
    · left
      refine ⟨i + 1, ?_, ⟨by omega, by omega, ?_⟩, by omega, rfl⟩
      · have w : IntKind.wrap .i64 ((i : Int) + 1) = ((i + 1 : Nat) : Int) := by rw [wrap64] <;> omega
        simp [m5_l0, evs, h1, h2, h1', h2', ha, hb, ev_len, ev_take, aeq_event, hq, endR_zero, w]
      · rw [List.take_add_one, List.take_add_one, he, ha, hb, hq]
    · right
      have hdd : diff a b = some i := by rw [hd, e1, e2]; simp [diff, hq]
      rw [hdd]
      refine ⟨?_, by simp⟩
      simp [m5_l0, evs, h1, h2, h1', h2', ha, hb, ev_len, ev_take, aeq_event, hq, endR_zero]
  · right
    have hdd : diff a b = some i := by
      have e2 : b.drop i = [] := List.drop_eq_nil_of_le (by omega)
      rw [hd, List.drop_eq_getElem_cons h1, e2]; simp [diff]
    rw [hdd]
    refine ⟨?_, by simp⟩
    have h1' : ¬ a.length ≤ i := by omega
    have h2' : b.length ≤ i := by omega
    simp [m5_l0, evs, h1, h2, h1', h2', endR_zero]
  · right
    have hdd : diff a b = some i := by
      have e1 : a.drop i = [] := List.drop_eq_nil_of_le (by omega)
      rw [hd, List.drop_eq_getElem_cons h2, e1]; simp [diff]
    rw [hdd]
    refine ⟨?_, by simp⟩
    have h1' : a.length ≤ i := by omega
    simp [m5_l0, evs, h1, h2, h1', endR_zero]
  · right
    obtain rfl : i = a.length := by omega
    have hl : b.length = a.length := by omega
    have hdd : diff a b = none := by
      rw [hd, List.drop_eq_nil_of_le (by omega), List.drop_eq_nil_of_le (by omega)]; simp [diff]
    rw [hdd]
    refine ⟨?_, by simp⟩
    simp [m5_l0, evs, hl, endR_zero]

theorem m5_spec (K : CallO) (a b : List Event) (hn : a.length ≤ 9223372036854775807) (hm : b.length ≤ 9223372036854775807) : m5 K (evs a) (evs b) [] = some (.ret (.int .i64 (diffI a b)), []) := by
  have hl := m5_loop K a b hn hm
  simp only [Int.ofNat_eq_natCast, Int.cast_ofNat_Int] at hl
  simp only [m5, List.length_nil, hl]
  cases hd : diff a b <;> simp [diffI, hd, finR_zero, evs]

noncomputable abbrev KK : CallO := callP ann (evW Try.prog ann)

theorem c7 (a b : List Event) (hn : a.length ≤ 9223372036854775807) (hm : b.length ≤ 9223372036854775807) (h : Heap) : KK 7 [evs a, evs b] h = some (.ret (.int .i64 (diffI a b)), h) :=
  callP_pure rfl rfl (evW_by (m7_eq _ _ _ _) (m7_spec _ a b hn hm))
theorem c5 (a b : List Event) (hn : a.length ≤ 9223372036854775807) (hm : b.length ≤ 9223372036854775807) (h : Heap) : KK 5 [evs a, evs b] h = some (.ret (.int .i64 (diffI a b)), h) :=
  callP_pure rfl rfl (evW_by (m5_eq _ _ _ _) (m5_spec _ a b hn hm))
theorem c4 (a b : List Event) (hn : a.length ≤ 9223372036854775807) (hm : b.length ≤ 9223372036854775807) (h : Heap) : KK 4 [evs a, evs b] h = some (.ret (.int .i64 (diffI a b)), h) :=
  callP_pure rfl rfl (evW_by (m4_eq _ _ _ _) (by
    have := c7 a b hn hm []
    simp only [evs] at this
    simp [m4, evs, this, finR_zero]))

def evA : Event := ⟨0, 2, 0, 0⟩
def evB' : Event := ⟨0, 4, 0, 0⟩

/-- The document's example. -/
theorem c6 (h : Heap) : KK 6 [] h = some (.ret (.bool true), h) :=
  callP_pure rfl rfl (evW_by (m6_eq _ _) (by
    have h1 := c4 [evA, evB'] [evA] (by decide) (by decide)
    have h2 := c4 [evA, evB'] [evA, evB'] (by decide) (by decide)
    have d1 : diffI [evA, evB'] [evA] = 1 := by decide
    have d2 : diffI [evA, evB'] [evA, evB'] = -1 := by decide
    rw [d1] at h1
    rw [d2] at h2
    have e0 : evs [evA, evB'] = .slice [[.int .i64 0, .int .i64 2, .int .i64 0, .int .i64 0], [.int .i64 0, .int .i64 4, .int .i64 0, .int .i64 0]] .no := rfl
    have e1 : evs [evA] = .slice [[.int .i64 0, .int .i64 2, .int .i64 0, .int .i64 0]] .no := rfl
    rw [e0, e1] at h1
    rw [e0] at h2
    simp [m6, abuild, putCells, AVal.isJunk, AVal.cells, abuildSlice, abuildRow, pureRow, AVal.pure1, AVal.cellOk, rowsOf, asliceSl, abound, h1, h2, finR_zero]))

theorem diff_comm (a b : List Event) : diff a b = diff b a := by
  induction a generalizing b with
  | nil => cases b <;> rfl
  | cons x xs ih =>
    cases b with
    | nil => rfl
    | cons y ys =>
      by_cases h : x = y
      · subst h; simp [diff, ih ys]
      · simp [diff, h, Ne.symm h]
theorem diff_some {a b : List Event} {n : Nat} (h : diff a b = some n) : n ≤ a.length ∧ n ≤ b.length ∧ a.take n = b.take n := by
  induction a generalizing b n with
  | nil => cases b <;> simp [diff] at h <;> subst h <;> simp
  | cons x xs ih =>
    cases b with
    | nil => simp [diff] at h; subst h; simp
    | cons y ys =>
      by_cases hq : x = y
      · subst hq
        simp [diff] at h
        obtain ⟨m, hm, rfl⟩ := h
        obtain ⟨h1, h2, h3⟩ := ih hm
        simp [h1, h2, h3]
      · simp [diff, hq] at h; subst h; simp

/-- THE LAW. -/
theorem m3_spec (a b : List Event) (hn : a.length ≤ 9223372036854775807) (hm : b.length ≤ 9223372036854775807) : m3 KK (evs a) (evs b) [] = some (.ret (.bool true), []) := by
  have h1 := c4 a b hn hm []
  have h2 := c5 a b hn hm []
  have h3 := c4 b a hm hn []
  have h6 := c6 []
  have hc : diffI b a = diffI a b := by simp [diffI, diff_comm b a]
  rw [hc] at h3
  cases hd : diff a b with
  | none =>
    have hi : diffI a b = -1 := by simp [diffI, hd]
    rw [hi] at h1 h2 h3
    simp only [evs] at h1 h2 h3
    have hlt : ¬ min (a.length : Int) b.length < -1 := by omega
    simp [m3, evs, h1, h2, h3, h6, hlt, finR_zero]
  | some n =>
    obtain ⟨e1, e2, e3⟩ := diff_some hd
    have hi : diffI a b = n := by simp [diffI, hd]
    rw [hi] at h1 h2 h3
    have h4 := c4 (a.take n) (b.take n) (by simp; omega) (by simp; omega) []
    have hi2 : diffI (a.take n) (b.take n) = -1 := by rw [e3]; simp [diffI, diff_self]
    rw [hi2] at h4
    simp only [evs, List.map_take] at h1 h2 h3 h4
    have s1 : asliceSl 4 (.slice (a.map Event.cells) .no) none (some (.int .i64 (n : Int))) = some (.slice ((a.take n).map Event.cells) .no) := by
      rw [asliceSl_map ev_len abound_none abound_nat (by omega) e1]; simp
    have s2 : asliceSl 4 (.slice (b.map Event.cells) .no) none (some (.int .i64 (n : Int))) = some (.slice ((b.take n).map Event.cells) .no) := by
      rw [asliceSl_map ev_len abound_none abound_nat (by omega) e2]; simp
    have hlt : ¬ min (a.length : Int) b.length < n := by omega
    have hneg : ¬ (n : Int) < 0 := by omega
    simp [m3, evs, h1, h2, h3, h4, h6, s1, s2, hlt, hneg, finR_zero]

theorem law (a b : List Event) (hn : a.length ≤ 9223372036854775807) (hm : b.length ≤ 9223372036854775807) : evW Try.prog ann 3 [evs a, evs b] [] = some (.ret (.bool true), []) :=
  evW_by (m3_eq _ _ _ _) (m3_spec a b hn hm)

end Go.Proofs.Ytkeoalhglkfbkaa

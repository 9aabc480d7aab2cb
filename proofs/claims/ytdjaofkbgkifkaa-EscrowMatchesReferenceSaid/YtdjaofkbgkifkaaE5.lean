/- Package escrow: a queue's put and take; Clone. -/
import Derived.Test.YtdjaofkbgkifkaaE4
set_option linter.unusedVariables false
set_option linter.unusedSimpArgs false
namespace Go.Proofs.Ytdjaofkbgkifkaa
open Go.RowKit

theorem four_cells {w : World} {g : Nat} {u0 u1 u2 u3 : Value} {T : TypeId} (h : w.heap[g]? = some (.cells #[u0, u1, u2, u3] T)) :
    w.cell? ⟨g, 0, none⟩ = some u0 ∧ w.cell? ⟨g, 1, none⟩ = some u1 ∧ w.cell? ⟨g, 2, none⟩ = some u2 ∧ w.cell? ⟨g, 3, none⟩ = some u3 ∧ (∀ o, w.frozen? ⟨g, o, none⟩ = false) := by
  refine ⟨?_, ?_, ?_, ?_, fun o => frozen_of_row w g o _ T h⟩
  · rw [cell_of_row w g _ _ T (0, 0) h]; rfl
  · rw [cell_of_row w g _ _ T (0, 0) h]; rfl
  · rw [cell_of_row w g _ _ T (0, 0) h]; rfl
  · rw [cell_of_row w g _ _ T (0, 0) h]; rfl
theorem info3 : (Try.prog.info? 3).map (fun i => (i.zero, i.size, i.bytes)) = some (some (.int .i64 0), 1, 8) := by kernel_rfl
theorem info137 : (Try.prog.info? 137).map (fun i => (i.zero, i.size, i.bytes)) = some (some (.agg #[.slice none 0 0, .int .i64 0, .int .i64 0, .bool false]), 4, 48) := by kernel_rfl
def ints (l : List Int) : List Value := l.flatMap icell
theorem ints_map (l : List Int) : ints l = l.map (.int .i64) := by
  induction l with
  | nil => rfl
  | cons x r ih =>
    have e : ints (x :: r) = .int .i64 x :: ints r := rfl
    rw [e, ih, List.map_cons]
theorem ints_length (l : List Int) : (ints l).length = l.length := by rw [ints_map]; simp
theorem ints_one (l : List Int) : ∀ u ∈ ints l, u.oneCell' = true := by
  intro u hu
  rw [ints_map] at hu
  simp only [List.mem_map] at hu
  obtain ⟨s, _, rfl⟩ := hu
  rfl
/-- slices.Clone of ints. -/
theorem clone_ints (v : Value) (xs : List Int) (w : World) (hv : Row w 1 v (ints xs)) (hb : xs.length ≤ 1000000) :
    Calls Try.prog 73 #[v] w fun e w' => ∃ v', e = .returned v' ∧ Row w' 1 v' (ints xs) ∧ (∀ k, rowBlk v' = some k → w.heap.size ≤ k ∧ k < w'.heap.size) ∧ Fr None' w w' := by
  obtain ⟨A, n, cap, rfl, hl⟩ := hv.form
  have hn : n = xs.length := by rw [ints_length] at hl; omega
  cases A with
  | none =>
    have hx : xs = [] := by
      cases xs with
      | nil => rfl
      | cons x r => obtain ⟨a, h, _⟩ := hv.cell 0 (.int .i64 x) rfl; cases h
    subst hx
    have heq := fun w : World => Lib.run_eql_slice_nil (P := Try.prog) w 74 3 none n cap 0 0 Try.underlying74
    clear hv hn hl
    go_enter Try.func73, Try.ntmps73
    go_wp2_with fail
    go_ret
    exact ⟨_, rfl, Row.nil _ _ _, by simp [rowBlk], Fr.refl _ _⟩
  | some a =>
    have heq := fun w : World => Lib.run_eql_slice_nil (P := Try.prog) w 74 3 (some a) n cap 0 0 Try.underlying74
    have Hv := Lib.hid hv
    have Hn := Lib.hid hn
    have Hl := Lib.hid hl
    clear hv hn hl
    go_enter Try.func73, Try.ntmps73
    go_wp2_with (at_builtin; refine wpList_append_row _ rfl _ _ 74 3 rfl _ 1 8 Try.underlying74 info3 rfl (by decide) _ [] rfl (Row.nil _ _ _) (some a) n cap (ints xs) rfl ?h1 ?h2 ?h3 ?h4 ?h5 ?_)
    case h1 => exact Hl.out
    case h2 => exact Hv.out.kept (fun k hk => Below.heap_alloc _ _ _ (Hv.out.lt hk)) |>.reads
    case h3 => exact ints_one xs
    case h4 => rw [ints_length]; simp; omega
    case h5 => rw [ints_length]; simp; omega
    intro v' w1 hr hg hb
    have Hr := Lib.hid hr
    have Hg := Lib.hid hg
    have Hb := Lib.hid hb
    clear hr hg hb
    go_wp2_with fail
    go_ret
    have hg := Hg.out
    have hf : Fr None' w w1 := ((Fr.refl None' w).alloc _).grown hg (by simp [rowBlk])
    refine ⟨v', rfl, by simpa using Hr.out, ?_, hf⟩
    intro k hk
    refine ⟨?_, Hr.out.lt hk⟩
    rcases Hb.out with hb | hb
    · rw [hb] at hk; simp [rowBlk] at hk
    · rw [hb] at hk; simp at hk; omega
theorem reads_blk {w : World} {b : Nat} {cs : List Value} {T : TypeId} (h : w.heap[b]? = some (.cells cs.toArray T)) : ReadsAs w (some ⟨b, 0, none⟩) cs := by
  have := reads_row (w := w) (b := b) (cs := cs.toArray) (T := T) h
  simpa using this
theorem put_ok {w : World} {bl : Nat} {t0 l0 r0 vM : Value} {xs : List (Value × EM)} (hb : w.heap[bl]? = some (.cells #[t0, l0, r0, vM] 109)) (hr : Row w 4 vM (xs.flatMap mcells)) (hlen : xs.length ≤ 1000) (A1 : Option Addr) (n1 c1 : Nat) (m : EM) (hne : rowBlk vM ≠ some bl) :
    Calls Try.prog 72 #[.pointer (some ⟨bl, 3, none⟩), .agg #[.slice A1 n1 c1, .int .i64 m.l, .int .i64 m.c, .bool m.r]] w fun e w' => e = .returned (.tuple #[]) ∧ ∃ v', Row w' 4 v' ((xs ++ [(Value.slice A1 n1 c1, m)]).flatMap mcells) ∧
      (∀ k, rowBlk v' = some k → rowBlk vM = some k ∨ (w.heap.size ≤ k ∧ k < w'.heap.size)) ∧ w'.heap[bl]? = some (.cells #[t0, l0, r0, v'] 109) ∧ Fr (fun k => k = bl ∨ rowBlk vM = some k) w w' := by
  obtain ⟨A, n, cap, rfl, hn⟩ := hr.form
  obtain ⟨_, _, _, c3, cf⟩ := four_cells hb
  have hlt : bl < w.heap.size := (Array.getElem?_eq_some_iff.1 hb).1
  -- the worlds on the way
  obtain ⟨w2, hw2⟩ : ∃ w2, w2 = ((w.alloc (.cells #[.slice A1 n1 c1, .int .i64 m.l, .int .i64 m.c, .bool m.r] 137)).alloc (.cells #[.slice A1 n1 c1, .int .i64 m.l, .int .i64 m.c, .bool m.r] 137)).drew := ⟨_, rfl⟩
  have f2 : Fr None' w w2 := by rw [hw2]; exact (((Fr.refl None' w).alloc _).alloc _).drew
  have hn2 : w2.heap[w.heap.size + 1]? = some (.cells #[.slice A1 n1 c1, .int .i64 m.l, .int .i64 m.c, .bool m.r] 137) := by
    rw [hw2]; have := heap_alloc_new (w.alloc (.cells #[.slice A1 n1 c1, .int .i64 m.l, .int .i64 m.c, .bool m.r] 137)) (.cells #[.slice A1 n1 c1, .int .i64 m.l, .int .i64 m.c, .bool m.r] 137)
    have e : (w.alloc (.cells #[.slice A1 n1 c1, .int .i64 m.l, .int .i64 m.c, .bool m.r] 137)).heap.size = w.heap.size + 1 := by simp
    rw [e] at this
    exact this
  have hr2 : Row w2 4 (.slice A n cap) (xs.flatMap mcells) := hr.fr f2 (fun _ _ h => h)
  have hrd : ReadsAs w2 (some ⟨w.heap.size + 1, 0, none⟩) ([(Value.slice A1 n1 c1, m)].flatMap mcells) := reads_blk (cs := [.slice A1 n1 c1, .int .i64 m.l, .int .i64 m.c, .bool m.r]) hn2
  have hone : ∀ u ∈ ([(Value.slice A1 n1 c1, m)].flatMap mcells), u.oneCell' = true := by
    intro u hu
    simp only [List.flatMap_cons, List.flatMap_nil, mcells, List.append_nil, List.mem_cons, List.not_mem_nil, or_false] at hu
    rcases hu with rfl | rfl | rfl | rfl <;> rfl
  have h4 : (xs.flatMap mcells).length + ([(Value.slice A1 n1 c1, m)].flatMap mcells).length ≤ 9007199254740992 := by
    rw [flat_length _ 4 mcells_len, flat_length _ 4 mcells_len]; simp; omega
  have h5 : (((xs.flatMap mcells).length + ([(Value.slice A1 n1 c1, m)].flatMap mcells).length) / 4) * 48 ≤ 140737488355328 := by
    rw [flat_length _ 4 mcells_len, flat_length _ 4 mcells_len]; simp; omega
  have Hb := Lib.hid (f2.heap hb (fun h => h))
  have Hf2 := Lib.hid f2
  have Hr2 := Lib.hid hr2
  have Hrd := Lib.hid hrd
  have Hone := Lib.hid hone
  have H4 := Lib.hid h4
  have H5 := Lib.hid h5
  have Hne := Lib.hid hne
  clear hb hr hne hn f2 hn2 hr2 hrd hone h4 h5 hlen
  subst hw2
  go_enter Try.func72, Try.ntmps72
  go_wp2_with fail
  go_region_law (refine step_append_row (((w.alloc (.cells #[.slice A1 n1 c1, .int .i64 m.l, .int .i64 m.c, .bool m.r] 137)).alloc (.cells #[.slice A1 n1 c1, .int .i64 m.l, .int .i64 m.c, .bool m.r] 137)).drew) rfl (.tmp 8) (.tmp 10) 105 137 rfl (.agg #[.slice none 0 0, .int .i64 0, .int .i64 0, .bool false]) 4 48 Try.underlying105 info137 rfl (by decide) (.slice A n cap) (xs.flatMap mcells) rfl Hr2.out (some ⟨w.heap.size + 1, 0, none⟩) 1 1 ([(Value.slice A1 n1 c1, m)].flatMap mcells) rfl rfl Hrd.out Hone.out H4.out H5.out ?_
                 intro v4 w4 hr4 hg4 hb4
                 obtain ⟨A4, n4, cap4, rfl, hn4⟩ := hr4.form
                 have hbl4 : w4.heap[bl]? = some (.cells #[t0, l0, r0, .slice A n cap] 109) := (hg4.block bl (Array.getElem?_eq_some_iff.1 Hb.out).1 (fun e => Hne.out e.symm)).trans Hb.out
                 obtain ⟨_, _, _, q3, qf⟩ := four_cells hbl4
                 have Hbl4 := Lib.hid hbl4
                 have Hr4 := Lib.hid hr4
                 have Hg4 := Lib.hid hg4
                 have Hb4 := Lib.hid hb4
                 clear hbl4 hr4 hg4 hb4 hn4)
  all_goals (
    go_wp2_with fail
    go_end0
    have f4 : Fr (fun k => k = bl ∨ rowBlk (.slice A n cap) = some k) w w4 := (Hf2.out.mono (fun _ _ h => h.elim)).grown Hg4.out (fun k hk => .inl (.inr hk))
    have hbk : rowBlk (.slice A4 n4 cap4) ≠ some bl := by
      rcases Hb4.out with h | h
      · rw [h]; exact Hne.out
      · rw [h]; intro e; cases e; have := Hf2.out.size; omega
    refine ⟨rfl, _, ?_, ?_, heap_setCell_same w4 bl 3 _ 109 _ Hbl4.out, f4.setCell (.inl (.inl rfl)) _⟩
    · rw [List.flatMap_append]
      exact Hr4.out.kept (fun k hk => setCell_other (fun e => hbk (by rw [hk]; exact congrArg some e)))
    · intro k hk
      rw [setCell_size]
      rcases Hb4.out with h | h
      · rw [h] at hk; exact .inl hk
      · have := Hr4.out.lt hk
        rw [h] at hk; cases hk
        exact .inr ⟨Hf2.out.size, this⟩)
end Go.Proofs.Ytdjaofkbgkifkaa

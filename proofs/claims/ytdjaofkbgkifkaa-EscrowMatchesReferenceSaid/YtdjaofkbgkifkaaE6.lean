/- Package escrow: slices.Delete of the first message; take. -/
import Derived.Test.YtdjaofkbgkifkaaE5
import Derived.Test.YtdjaofkbgkifkaaDel
set_option linter.unusedVariables false
set_option linter.unusedSimpArgs false
namespace Go.Proofs.Ytdjaofkbgkifkaa
open Go.RowKit

theorem info137s : (Try.prog.info? 137).map (fun i => i.size) = some 4 := by kernel_rfl
theorem info137z : (Try.prog.info? 137).map (fun i => (i.zero, i.size)) = some (some (.agg #[.slice none 0 0, .int .i64 0, .int .i64 0, .bool false]), 4) := by kernel_rfl
theorem mcells_one (l : List (Value × EM)) (h : ∀ p ∈ l, p.1.oneCell' = true) : ∀ u ∈ l.flatMap mcells, u.oneCell' = true := by
  intro u hu
  obtain ⟨p, hp, hu⟩ := List.mem_flatMap.1 hu
  simp only [mcells, List.mem_cons, List.not_mem_nil, or_false] at hu
  rcases hu with rfl | rfl | rfl | rfl
  · exact h p hp
  · rfl
  · rfl
  · rfl
set_option maxRecDepth 100000 in
theorem delete1 {w : World} {g off n cap : Nat} {p : Value × EM} {xs : List (Value × EM)} (hr : Row w 4 (.slice (some ⟨g, off, none⟩) n cap) ((p :: xs).flatMap mcells)) (h1 : ∀ q ∈ xs, q.1.oneCell' = true) :
    Calls Try.prog 103 #[.slice (some ⟨g, off, none⟩) n cap, .int .i64 0, .int .i64 1] w fun e w' => e = .returned (.slice (some ⟨g, off, none⟩) (n - 1) cap) ∧ Row w' 4 (.slice (some ⟨g, off, none⟩) (n - 1) cap) (xs.flatMap mcells) ∧ Fr (fun k => k = g) w w' := by
  have hn : n = xs.length + 1 := by
    obtain ⟨A', n', cap', he, h, _⟩ := hr
    cases he
    rw [flat_length _ 4 mcells_len] at h
    simp only [List.length_cons] at h
    omega
  have hcap : n ≤ cap := by obtain ⟨A', n', cap', he, h2, h3, h4⟩ := hr; cases he; exact h3
  have hz : Row w.drew 4 (.slice (some ⟨g, off, none⟩) 0 cap) [] := hr.zero
  have hsub := hr.sub 1 n cap (by omega) (Nat.le_refl _) hcap (Nat.le_refl _)
  obtain ⟨A1, hA1⟩ : ∃ A1, A1 = (if cap = 1 then some (⟨g, off, none⟩ : Addr) else (some (⟨g, off, none⟩ : Addr)).map (·.add (1 * 4))) := ⟨_, rfl⟩
  rw [← hA1] at hsub
  have htk : (((p :: xs).flatMap mcells).drop (1 * 4)).take ((n - 1) * 4) = xs.flatMap mcells := by
    rw [List.flatMap_cons, List.drop_append_of_le_length (by rw [mcells_len]; omega), List.drop_eq_nil_of_le (by rw [mcells_len]; omega), List.nil_append]
    apply List.take_of_length_le
    rw [flat_length _ 4 mcells_len]; omega
  rw [htk] at hsub
  have hsl := fun W : World => run_slice_lo (P := Try.prog) W 105 137 4 Try.underlying105 info137s (some ⟨g, off, none⟩) n cap .i64 1 (by omega)
  rw [← hA1] at hsl
  simp only [Int.natCast_one] at hsl
  have hslh := fun W : World => run_slice_hi (P := Try.prog) W 105 137 4 Try.underlying105 info137s (some ⟨g, off, none⟩) n cap .i64 0 (by omega)
  simp only [Int.natCast_zero] at hslh
  have hrd : ReadsAs w.drew A1 (xs.flatMap mcells) := Row.reads (show Row w.drew 4 _ _ from hsub)
  have hl : (xs.flatMap mcells).length = (n - 1) * 4 := by rw [flat_length _ 4 mcells_len]; congr 1; omega
  have Hz := Lib.hid hz
  have Hrd := Lib.hid hrd
  have Hl := Lib.hid hl
  have H1 := Lib.hid (mcells_one xs h1)
  have h01 : (n : Int) ≤ cap := by omega
  have h02 : (1 : Int) ≤ n := by omega
  have h03 : 1 ≤ n := by omega
  have h04 : 1 ≤ cap := by omega
  clear hr hz hsub htk hrd hl h1 hA1 hn
  go_enter Try.func103, Try.ntmps103
  go_wp2_with fail
  go_still_tail 6, (by kernel_rfl)
  change wpList _ _ _ _ _ w.drew
  refine wpList_append_room w.drew rfl (.tmp 22) (.tmp 25) 105 137 rfl 4 Try.underlying105 info137s g off 0 cap [] rfl Hz.out A1 (n - 1) (cap - 1) (xs.flatMap mcells) rfl Hl.out Hrd.out H1.out (by omega) (by omega) ?_
  intro w4 hr4 hg4
  rw [List.nil_append, Nat.zero_add] at hr4
  rw [Nat.zero_add]
  have e1 : n - (n - 1) = 1 := by omega
  obtain ⟨w5, hcl, hr5, hg5⟩ := run_clear_row (P := Try.prog) w4 105 0 137 _ 4 Try.underlying105 info137z rfl (by intro u hu; simp [Value.cells] at hu; rcases hu with rfl | rfl | rfl | rfl <;> rfl) g off (n - 1) cap (cap - (n - 1)) (xs.flatMap mcells) hr4 (by omega)
  have e2 : ¬ cap = n - 1 := by omega
  have e3 : (n : Int) - 1 = ((n - 1 : Nat) : Int) := by omega
  have Hr4 := Lib.hid hr4
  have Hg4 := Lib.hid hg4
  have Hr5 := Lib.hid hr5
  have Hg5 := Lib.hid hg5
  clear hr4 hg4 hr5 hg5
  go_wp2_with fail
  go_ret
  exact ⟨rfl, Hr5.out, (((Fr.refl (fun k => k = g) w).drew).grown Hg4.out (fun k hk => by cases hk; exact .inl rfl)).grown Hg5.out (fun k hk => by cases hk; exact .inl rfl)⟩
theorem results_cell_tmp {P : Program} {fn : Func} {p u : Tmp} {ty : TypeId} (h : fn.results = #[.cell p ty, .tmp u]) (tmps : Array Value) (w : World) (g : Nat) (t : TypeId) (cs : Array Value) (fr : Nat × Nat) (d : TypeDesc)
    (hp : tmps.getD p undef = .pointer (some ⟨g, 0, none⟩)) (hg : w.heap[g]? = some (.cells cs t fr))
    (hu : P.underlying ty = some d) (hd : (match d with | .struct _ | .array _ _ => true | _ => false) = true) (hi : (P.info? ty).map (·.size) = some cs.size) :
    (results fn tmps).run P w = .ok (.tuple #[.agg cs, tmps.getD u undef]) w := by
  have hp' : tmps[p]?.getD undef = .pointer (some ⟨g, 0, none⟩) := by simpa using hp
  simp [results, h, hp', asAddr, run_loadVar_row w g t ty cs fr d hg hu hd hi]
theorem set4 {w : World} {g : Nat} {u0 u1 u2 u3 : Value} {T : TypeId} (h : w.heap[g]? = some (.cells #[u0, u1, u2, u3] T)) (v0 v1 v2 v3 : Value) :
    ((((w.setCell ⟨g, 0, none⟩ v0).setCell ⟨g, 1, none⟩ v1).setCell ⟨g, 2, none⟩ v2).setCell ⟨g, 3, none⟩ v3).heap[g]? = some (.cells #[v0, v1, v2, v3] T) := by
  have h1 := heap_setCell_same w g 0 _ T v0 h
  have h2 := heap_setCell_same _ g 1 _ T v1 h1
  have h3 := heap_setCell_same _ g 2 _ T v2 h2
  exact heap_setCell_same _ g 3 _ T v3 h3
theorem fr_set4 {w : World} {F : Nat → Prop} {g : Nat} (hg : F g) (v0 v1 v2 v3 : Value) : Fr F w ((((w.setCell ⟨g, 0, none⟩ v0).setCell ⟨g, 1, none⟩ v1).setCell ⟨g, 2, none⟩ v2).setCell ⟨g, 3, none⟩ v3) :=
  ((((Fr.refl F w).setCell (.inl hg) _).setCell (.inl hg) _).setCell (.inl hg) _).setCell (.inl hg) _
theorem alloc_under (w : World) (o o' : Obj) : ((w.alloc o).alloc o').heap[w.heap.size]? = some o := by
  rw [Below.heap_alloc _ _ _ (by simp)]
  exact heap_alloc_new w o
theorem take_nil {w : World} {bl : Nat} {t0 l0 r0 : Value} {A : Option Addr} {cap : Nat} (hb : w.heap[bl]? = some (.cells #[t0, l0, r0, .slice A 0 cap] 109)) :
    Calls Try.prog 74 #[.pointer (some ⟨bl, 3, none⟩)] w fun e w' => e = .returned (.tuple #[.agg #[.slice none 0 0, .int .i64 0, .int .i64 0, .bool false], .bool false]) ∧ Fr None' w w' := by
  obtain ⟨_, _, _, c3, cf⟩ := four_cells hb
  have hlt : bl < w.heap.size := (Array.getElem?_eq_some_iff.1 hb).1
  clear hb
  go_enter Try.func74, Try.ntmps74
  go_wp2_with fail
  refine bodyPost_ret (results_cell_tmp rfl _ _ w.heap.size 137 #[.slice none 0 0, .int .i64 0, .int .i64 0, .bool false] (0, 0) _ rfl (alloc_under _ _ _) Try.underlying137 rfl (by kernel_rfl)) rfl ⟨rfl, ((Fr.refl _ _).alloc _).alloc _⟩
theorem take_ok {w : World} {bl g off n cap : Nat} {t0 l0 r0 : Value} {A1 : Option Addr} {n1 c1 : Nat} {m : EM} {xs : List (Value × EM)} (hb : w.heap[bl]? = some (.cells #[t0, l0, r0, .slice (some ⟨g, off, none⟩) n cap] 109))
    (hr : Row w 4 (.slice (some ⟨g, off, none⟩) n cap) (((Value.slice A1 n1 c1, m) :: xs).flatMap mcells)) (h1 : ∀ q ∈ xs, q.1.oneCell' = true) (hne : g ≠ bl) :
    Calls Try.prog 74 #[.pointer (some ⟨bl, 3, none⟩)] w fun e w' => e = .returned (.tuple #[.agg #[.slice A1 n1 c1, .int .i64 m.l, .int .i64 m.c, .bool m.r], .bool true]) ∧
      Row w' 4 (.slice (some ⟨g, off, none⟩) (n - 1) cap) (xs.flatMap mcells) ∧ w'.heap[bl]? = some (.cells #[t0, l0, r0, .slice (some ⟨g, off, none⟩) (n - 1) cap] 109) ∧ Fr (fun k => k = bl ∨ k = g) w w' := by
  have hn : n = xs.length + 1 := by
    obtain ⟨A', n', cap', he, h, _⟩ := hr
    cases he
    rw [flat_length _ 4 mcells_len] at h
    simp only [List.length_cons] at h
    omega
  have hn0 : 0 < n := by omega
  have hn1 : ((n : Int) == 0) = false := by rw [beq_eq_false_iff_ne]; omega
  have hn2 : (0 : Int) < n := by omega
  obtain ⟨_, _, _, c3, cf⟩ := four_cells hb
  have hlt : bl < w.heap.size := (Array.getElem?_eq_some_iff.1 hb).1
  have hbk : rowBlk (.slice (some ⟨g, off, none⟩) n cap) = some g := by
    have hcap : n ≤ cap := by obtain ⟨A', n', cap', he, h2, h3, h4⟩ := hr; cases he; exact h3
    simp [rowBlk]; omega
  have hlg := hr.lt hbk
  -- the first element's cells
  obtain ⟨g', off', he, _, hc⟩ := hr.at_ (i := 0) (by omega)
  cases he
  have q0 : w.cell? ⟨g, off, none⟩ = some (.slice A1 n1 c1) := by have := hc 0 (by decide); simpa [mcells] using this
  have q1 : w.cell? ⟨g, off + 1, none⟩ = some (.int .i64 m.l) := by have := hc 1 (by decide); simpa [mcells] using this
  have q2 : w.cell? ⟨g, off + 2, none⟩ = some (.int .i64 m.c) := by have := hc 2 (by decide); simpa [mcells] using this
  have q3 : w.cell? ⟨g, off + 3, none⟩ = some (.bool m.r) := by have := hc 3 (by decide); simpa [mcells] using this
  have Hb := Lib.hid hb
  have Hr := Lib.hid hr
  have H1 := Lib.hid h1
  clear hb hr h1 hc hn hn0
  go_enter Try.func74, Try.ntmps74
  go_wp2_with fail
  have Hf1 := Lib.hid (show Fr None' w ((w.alloc (.cells #[.slice none 0 0, .int .i64 0, .int .i64 0, .bool false] 137)).alloc (.cells #[.slice A1 n1 c1, .int .i64 m.l, .int .i64 m.c, .bool m.r] 137)) from ((Fr.refl None' w).alloc _).alloc _)
  have Ha := Lib.hid (alloc_under w (.cells #[.slice none 0 0, .int .i64 0, .int .i64 0, .bool false] 137) (.cells #[.slice A1 n1 c1, .int .i64 m.l, .int .i64 m.c, .bool m.r] 137))
  have Hb1 := Lib.hid (show ((w.alloc (.cells #[.slice none 0 0, .int .i64 0, .int .i64 0, .bool false] 137)).alloc (.cells #[.slice A1 n1 c1, .int .i64 m.l, .int .i64 m.c, .bool m.r] 137)).heap[w.heap.size + 1]? = some (.cells #[.slice A1 n1 c1, .int .i64 m.l, .int .i64 m.c, .bool m.r] 137) from by
    have := heap_alloc_new (w.alloc (.cells #[.slice none 0 0, .int .i64 0, .int .i64 0, .bool false] 137)) (.cells #[.slice A1 n1 c1, .int .i64 m.l, .int .i64 m.c, .bool m.r] 137)
    have e : (w.alloc (.cells #[.slice none 0 0, .int .i64 0, .int .i64 0, .bool false] 137)).heap.size = w.heap.size + 1 := by simp
    rw [e] at this
    exact this)
  generalize (w.alloc (.cells #[.slice none 0 0, .int .i64 0, .int .i64 0, .bool false] 137)).alloc (.cells #[.slice A1 n1 c1, .int .i64 m.l, .int .i64 m.c, .bool m.r] 137) = w1 at *
  refine (delete1 (Hr.out.fr Hf1.out (fun _ _ h => h)) H1.out).mono ?_
  rintro e w2 ⟨rfl, hr2, hf2⟩
  have hb2 := hf2.heap (Hf1.out.heap Hb.out (fun h => h)) (Ne.symm hne)
  have hx2 := hf2.heap Ha.out (by omega)
  have hy2 := hf2.heap Hb1.out (by omega)
  obtain ⟨_, _, _, d3, df⟩ := four_cells hb2
  obtain ⟨x0, x1, x2, x3, xf⟩ := four_cells hx2
  obtain ⟨y0, y1, y2, y3, yf⟩ := four_cells hy2
  have hbn : ¬ w.heap.size = bl := by omega
  have hbn1 : ¬ w.heap.size + 1 = bl := by omega
  have Hr2 := Lib.hid hr2
  have Hf2 := Lib.hid hf2
  have Hb2 := Lib.hid hb2
  have Hx2 := Lib.hid hx2
  clear hr2 hf2 hb2 hx2 hy2
  go_wp2_with fail
  have hx3 : (w2.setCell ⟨bl, 3, none⟩ (.slice (some ⟨g, off, none⟩) (n - 1) cap)).heap[w.heap.size]? = _ := (setCell_other hbn).trans Hx2.out
  have hb3 := heap_setCell_same w2 bl 3 _ 109 (.slice (some ⟨g, off, none⟩) (n - 1) cap) Hb2.out
  have hres := set4 hx3 (.slice A1 n1 c1) (.int .i64 m.l) (.int .i64 m.c) (.bool m.r)
  have hf5 := fr_set4 (w := w2.setCell ⟨bl, 3, none⟩ (.slice (some ⟨g, off, none⟩) (n - 1) cap)) (F := fun k => k = w.heap.size) (g := w.heap.size) rfl (.slice A1 n1 c1) (.int .i64 m.l) (.int .i64 m.c) (.bool m.r)
  refine bodyPost_ret (results_cell_tmp rfl _ _ w.heap.size 137 #[.slice A1 n1 c1, .int .i64 m.l, .int .i64 m.c, .bool m.r] (0, 0) _ rfl hres Try.underlying137 rfl (by kernel_rfl)) rfl ⟨rfl, ?_, hf5.heap hb3 (fun e => hbn e.symm), ?_⟩
  · refine (Hr2.out.kept (fun k hk => ?_)).fr hf5 (fun k hk => ?_)
    · refine setCell_other (fun e => ?_)
      have h := (Option.some.inj (hk.symm.trans (show rowBlk (.slice (some ⟨g, off, none⟩) (n - 1) cap) = some g from hbk)))
      exact hne (h.symm.trans e)
    · intro e
      have h := (Option.some.inj (hk.symm.trans (show rowBlk (.slice (some ⟨g, off, none⟩) (n - 1) cap) = some g from hbk)))
      omega
  · have f1 : Fr (fun k => k = bl ∨ k = g) w w1 := Hf1.out.mono (fun _ _ h => h.elim)
    have f2 := (f1.trans Hf2.out (fun k _ h => .inr h)).setCell (p := ⟨bl, 3, none⟩) (.inl (.inl rfl)) (.slice (some ⟨g, off, none⟩) (n - 1) cap)
    exact f2.trans hf5 (fun k hk e => by omega)
end Go.Proofs.Ytdjaofkbgkifkaa

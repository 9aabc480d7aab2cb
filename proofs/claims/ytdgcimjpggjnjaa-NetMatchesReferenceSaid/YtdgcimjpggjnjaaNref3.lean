/- The reference network: Send. -/
import Derived.Test.YtdgcimjpggjnjaaNref2
set_option linter.unusedVariables false
set_option linter.unusedSimpArgs false
namespace Go.Proofs.Ytdgcimjpggjnjaa
open Go.RowKit

theorem lt_of_heap {w : World} {k : Nat} {o : Obj} (h : w.heap[k]? = some o) : k < w.heap.size := (Array.getElem?_eq_some_iff.1 h).1
theorem size_setCell (w : World) (a : Addr) (v : Value) : (w.setCell a v).heap.size = w.heap.size := by simp [World.setCell]
theorem RefAt.putL {w0 w : World} {F : Nat → Prop} {g : Nat} {S : RS} {vL vG v : Value} {L' : List Msg} (h : RefAt w0 F g S vL vG) (hf : Fr (fun k => rowBlk vL = some k) w0 w) (hrow : Row w 3 v (L'.flatMap Msg.cells))
    (hb : ∀ k, rowBlk v = some k → rowBlk vL = some k ∨ w0.heap.size ≤ k) (hl : L'.length ≤ 1000) : RefIs (w.setCell ⟨g, 1, none⟩ v) (Ext F w0 (w.setCell ⟨g, 1, none⟩ v)) g ⟨S.N, L', S.G⟩ ∧ Fr F w0 (w.setCell ⟨g, 1, none⟩ v) := by
  have hg : g < w0.heap.size := lt_of_heap h.obj
  have hobj : w.heap[g]? = some (.cells #[.int .i64 S.N, vL, vG] 64) := hf.heap h.obj (fun e => (h.ol g e).2 rfl)
  have hvg : ∀ k, rowBlk v = some k → k ≠ g := fun k hk e => by
    subst e
    rcases hb k hk with hk | hk
    · exact (h.ol k hk).2 rfl
    · omega
  have hrg : Row w 2 vG (S.G.flatMap lcells) := h.rg.fr hf (fun k hk => (h.og k hk).2.2)
  refine ⟨⟨v, vG, heap_setCell_same w g 1 _ 64 v hobj, .inl h.fg, hrow.kept (fun k hk => heap_setCell_other w _ k v (hvg k hk)), hrg.kept (fun k hk => heap_setCell_other w _ k v (h.og k hk).2.1), ?_, ?_, hl, h.bg⟩, ?_⟩
  · intro k hk
    refine ⟨?_, hvg k hk⟩
    rcases hb k hk with h1 | h1
    · exact .inl (h.ol k h1).1
    · exact .inr ⟨h1, by have := hrow.lt hk; rw [size_setCell]; omega⟩
  · intro k hk
    refine ⟨.inl (h.og k hk).1, (h.og k hk).2.1, fun e => ?_⟩
    rcases hb k e with h1 | h1
    · exact (h.og k hk).2.2 h1
    · have := h.rg.lt hk; omega
  · exact (hf.mono (fun k _ hk => (h.ol k hk).1)).setCell (.inl h.fg) _
theorem RefAt.putG {w0 w : World} {F : Nat → Prop} {g : Nat} {S : RS} {vL vG v : Value} {G' : List (Int × Int)} (h : RefAt w0 F g S vL vG) (hf : Fr (fun k => rowBlk vG = some k) w0 w) (hrow : Row w 2 v (G'.flatMap lcells))
    (hb : ∀ k, rowBlk v = some k → rowBlk vG = some k ∨ w0.heap.size ≤ k) (hl : G'.length ≤ 1000) : RefIs (w.setCell ⟨g, 2, none⟩ v) (Ext F w0 (w.setCell ⟨g, 2, none⟩ v)) g ⟨S.N, S.L, G'⟩ ∧ Fr F w0 (w.setCell ⟨g, 2, none⟩ v) := by
  have hg : g < w0.heap.size := lt_of_heap h.obj
  have hobj : w.heap[g]? = some (.cells #[.int .i64 S.N, vL, vG] 64) := hf.heap h.obj (fun e => (h.og g e).2.1 rfl)
  have hvg : ∀ k, rowBlk v = some k → k ≠ g := fun k hk e => by
    subst e
    rcases hb k hk with hk | hk
    · exact (h.og k hk).2.1 rfl
    · omega
  have hrl : Row w 3 vL (S.L.flatMap Msg.cells) := h.rl.fr hf (fun k hk he => (h.og k he).2.2 hk)
  refine ⟨⟨vL, v, heap_setCell_same w g 2 _ 64 v hobj, .inl h.fg, hrl.kept (fun k hk => heap_setCell_other w _ k v (h.ol k hk).2), hrow.kept (fun k hk => heap_setCell_other w _ k v (hvg k hk)), ?_, ?_, h.bl, hl⟩, ?_⟩
  · exact fun k hk => ⟨.inl (h.ol k hk).1, (h.ol k hk).2⟩
  · intro k hk
    rcases hb k hk with h1 | h1
    · exact ⟨.inl (h.og k h1).1, (h.og k h1).2.1, (h.og k h1).2.2⟩
    · refine ⟨.inr ⟨h1, by have := hrow.lt hk; rw [size_setCell]; omega⟩, hvg k hk, fun e => ?_⟩
      have := h.rl.lt e; omega
  · exact (hf.mono (fun k _ hk => (h.og k hk).1)).setCell (.inl h.fg) _
theorem RefIs.keep {w w' : World} {F : Nat → Prop} {g : Nat} {S : RS} (h : RefIs w F g S) (hf : Fr None' w w') : RefIs w' (Ext F w w') g S := (h.fr hf (fun _ _ h => h)).mono (fun k hk => .inl hk)

def rSend (S : RS) (a b : Int) (t : ByteArray) : Int × RS :=
  if knowsB S.N a b = false ∨ 20000 < t.size then (1, S) else if 0 ≤ cutI S.G a b then (29, S) else if 100 ≤ (rWait S a b).length then (28, S) else (0, ⟨S.N, S.L ++ [⟨a, b, t⟩], S.G⟩)
theorem info67 : (Try.prog.info? 67).map (fun i => (i.zero, i.size, i.bytes)) = some (some (.agg #[.int .i64 0, .int .i64 0, .string ⟨#[]⟩]), 3, 32) := by kernel_rfl
theorem info57 : (Try.prog.info? 57).map (fun i => (i.zero, i.size, i.bytes)) = some (some (.agg #[.int .i64 0, .int .i64 0]), 2, 16) := by kernel_rfl

set_option maxRecDepth 10000 in
theorem rsend_any {w : World} {F : Nat → Prop} {g : Nat} {S : RS} (hr : RefIs w F g S) (a b : Int) (t : ByteArray) (ht : t.size ≤ 9223372036854775807) (hL : S.L.length < 1000) :
    Calls Try.prog 26 #[.pointer (some ⟨g, 0, none⟩), .int .i64 a, .int .i64 b, .string t] w fun e w' => e = .returned (.int .i64 (rSend S a b t).1) ∧ RefIs w' (Ext F w w') g (rSend S a b t).2 ∧ Fr F w w' := by
  have hr0 := Lib.hid hr
  obtain ⟨vL, vG, h⟩ := hr
  obtain ⟨c0, c1, c2, _⟩ := h.cells
  have H := Lib.hid h
  clear h
  unfold rSend
  have fin : ∀ {v : Value} {x : Int} {w' : World}, v = .int .i64 x → Fr None' w w' → (Ending.returned v = .returned (.int .i64 x)) ∧ RefIs w' (Ext F w w') g S ∧ Fr F w w' := fun hv hf => ⟨by rw [hv], hr0.out.keep hf, fr_none hf⟩
  cases hk : knowsB S.N a b with
  | false =>
    simp only [true_or, if_true]
    have hp := pair_ok S.N a b g w c0
    rw [hk] at hp
    have HP := Lib.hid hp
    clear hp hk
    go_enter Try.func26, Try.ntmps26
    go_wp2_with fail
    refine HP.out.mono ?_
    rintro e w1 ⟨rfl, rfl⟩
    go_wp2_with fail
    go_ret
    exact fin rfl (Fr.refl _ _)
  | true =>
    have hp := pair_ok S.N a b g w c0
    rw [hk] at hp
    have HP := Lib.hid hp
    have Hk := Lib.hid hk
    clear hp hk
    simp only [Bool.true_eq_false, false_or]
    by_cases h2 : 20000 < t.size
    · rw [if_pos h2]
      have h2' : 20000 < (t.size : Int) := by omega
      go_enter Try.func26, Try.ntmps26
      go_wp2_with fail
      refine HP.out.mono ?_
      rintro e w1 ⟨rfl, rfl⟩
      go_wp2_with fail
      go_ret
      exact fin rfl (Fr.refl _ _)
    · rw [if_neg h2]
      have h2' : ¬ 20000 < (t.size : Int) := by omega
      clear h2
      obtain ⟨x, hx⟩ : ∃ x, x = cutI S.G a b := ⟨_, rfl⟩
      have hc := rcut_any hr0.out a b
      rw [← hx] at hc
      rw [← hx]
      have HC := Lib.hid hc
      clear hc hx
      by_cases h3 : 0 ≤ x
      · rw [if_pos h3]
        go_enter Try.func26, Try.ntmps26
        go_wp2_with fail
        refine HP.out.mono ?_
        rintro e w1 ⟨rfl, rfl⟩
        go_wp2_with fail
        refine HC.out.mono ?_
        rintro e w2 ⟨rfl, hf2⟩
        have Hf2 := Lib.hid hf2
        clear hf2
        go_wp2_with fail
        go_ret
        exact fin rfl Hf2.out
      · rw [if_neg h3]
        have hlen : (rWait S a b).length ≤ 1000 := by
          unfold rWait; rw [Hk.out, if_pos rfl]
          exact Nat.le_trans (rTexts_len _ _ _) (by omega)
        by_cases h4 : 100 ≤ (rWait S a b).length
        · rw [if_pos h4]
          go_enter Try.func26, Try.ntmps26
          go_wp2_with fail
          refine HP.out.mono ?_
          rintro e w1 ⟨rfl, rfl⟩
          go_wp2_with fail
          refine HC.out.mono ?_
          rintro e w2 ⟨rfl, hf2⟩
          have Hf2 := Lib.hid hf2
          clear hf2
          go_wp2_with fail
          refine (rwait_any (hr0.out.fr Hf2.out (fun _ _ h => h)) a b).mono ?_
          rintro e w3 ⟨v, rfl, hr3, hf3⟩
          obtain ⟨A, n, cap, rfl, hl⟩ := hr3.form
          have hn : n = (rWait S a b).length := by rw [strs_length] at hl; omega
          have hnI : ((rWait S a b).length : Int) ≥ 100 := by omega
          subst hn
          have Hf3 := Lib.hid (Hf2.out.trans0 hf3)
          clear hf3 hr3 hl h4
          go_wp2_with fail
          go_ret
          exact fin rfl Hf3.out
        · rw [if_neg h4]
          go_enter Try.func26, Try.ntmps26
          go_wp2_with fail
          refine HP.out.mono ?_
          rintro e w1 ⟨rfl, rfl⟩
          go_wp2_with fail
          refine HC.out.mono ?_
          rintro e w2 ⟨rfl, hf2⟩
          have Hf2 := Lib.hid hf2
          clear hf2
          go_wp2_with fail
          refine (rwait_any (hr0.out.fr Hf2.out (fun _ _ h => h)) a b).mono ?_
          rintro e w3 ⟨v, rfl, hr3, hf3⟩
          obtain ⟨A, n, cap, rfl, hl⟩ := hr3.form
          have hn : n = (rWait S a b).length := by rw [strs_length] at hl; omega
          have hnI : ¬ (100 ≤ ((rWait S a b).length : Int)) := by omega
          subst hn
          have hf3' := Hf2.out.trans0 hf3
          have d1 := hf3'.cell c1 (fun h => h)
          have H3 := Lib.hid (H.out.fr hf3' (fun _ _ h => h))
          have Hf3 := Lib.hid hf3'
          have hrow3 : Row (w3.alloc (.cells #[.int .i64 a, .int .i64 b, .string t] 67)) 3 vL (S.L.flatMap Msg.cells) := H3.out.rl.fr ((Fr.refl None' _).alloc _) (fun _ _ h => h)
          have Hrow3 := Lib.hid hrow3
          have Hrd : Hid (ReadsAs (w3.alloc (.cells #[.int .i64 a, .int .i64 b, .string t] 67)) (some ⟨w3.heap.size, 0, none⟩) [.int .i64 a, .int .i64 b, .string t]) := Lib.hid (reads_row (heap_alloc_new w3 _))
          have Hone : Hid (∀ u ∈ [Value.int .i64 a, .int .i64 b, .string t], u.oneCell' = true) := Lib.hid (by intro u hu; simp at hu; rcases hu with rfl | rfl | rfl <;> rfl)
          clear hf3 hr3 hl h4 hf3' hrow3
          go_wp2_with (at_builtin; refine wpList_append_row _ rfl _ _ 61 67 rfl (.agg #[.int .i64 0, .int .i64 0, .string ⟨#[]⟩]) 3 32 Try.underlying61 info67 rfl (by decide) vL (S.L.flatMap Msg.cells) rfl Hrow3.out (some ⟨w3.heap.size, 0, none⟩) 1 1 [.int .i64 a, .int .i64 b, .string t] rfl rfl Hrd.out Hone.out ?h4 ?h5 ?_)
          case h4 => rw [flat_length _ 3 Msg.cells_len]; simp; omega
          case h5 => rw [flat_length _ 3 Msg.cells_len]; show (S.L.length * 3 + 3) / 3 * 32 ≤ _; omega
          intro v6 w6 hr6 hg6 hb6
          obtain ⟨A6, n6, c6, rfl, _⟩ := hr6.form
          have hf6 : Fr (fun k => rowBlk vL = some k) w3 w6 := ((Fr.refl _ w3).alloc _).grown hg6 (fun j hj => .inl hj)
          have hg3 : w6.heap[g]? = some (.cells #[.int .i64 S.N, vL, vG] 64) := hf6.heap H3.out.obj (fun e => (H3.out.ol g e).2 rfl)
          obtain ⟨g0, g1, g2, gz⟩ := three_cells hg3
          have hput := H3.out.putL (L' := S.L ++ [⟨a, b, t⟩]) hf6 (by rw [List.flatMap_append]; exact hr6) (fun k hk => by
            rcases hb6 with h | h
            · rw [h] at hk; exact .inl hk
            · rw [h] at hk; cases hk; exact .inr (by omega)) (by simp; omega)
          have Hput := Lib.hid hput
          clear hr6 hg6 hb6 hf6 hg3 hput
          go_wp2_with fail
          go_ret
          have hs3 := Hf3.out.size
          exact ⟨rfl, Hput.out.1.mono (fun k hk => by
            rcases hk with hk | hk
            · exact .inl hk
            · exact .inr ⟨by omega, hk.2⟩), (fr_none Hf3.out).trans Hput.out.2 (fun _ _ h => h)⟩
end Go.Proofs.Ytdgcimjpggjnjaa

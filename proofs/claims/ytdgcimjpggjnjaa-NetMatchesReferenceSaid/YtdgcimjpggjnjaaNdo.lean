/- The steps of a network: do, few; a slice of steps as an argument. -/
import Derived.Test.YtdgcimjpggjnjaaNhead
import Derived.Test.YtdgcimjpggjnjaaOpen
set_option linter.unusedVariables false
set_option linter.unusedSimpArgs false
namespace Go.Proofs.Ytdgcimjpggjnjaa
open Go.RowKit

structure Stp where
  kind : Int
  a : Int
  b : Int
  text : ByteArray
  lost : Bool
  again : Bool
deriving Inhabited
structure Rst where
  err : Int
  text : ByteArray
  ok : Bool
def Stp.cells (x : Stp) : List Value := [.int .i64 x.kind, .int .i64 x.a, .int .i64 x.b, .string x.text, .bool x.lost, .bool x.again]
def Stp.val (x : Stp) : Value := .agg #[.int .i64 x.kind, .int .i64 x.a, .int .i64 x.b, .string x.text, .bool x.lost, .bool x.again]
def Rst.val (x : Rst) : Value := .agg #[.int .i64 x.err, .string x.text, .bool x.ok]
def nDo (S : NS) (x : Stp) : Rst × NS :=
  if x.kind = 0 then (⟨(nSend S x.a x.b x.text).1, ⟨#[]⟩, false⟩, (nSend S x.a x.b x.text).2)
  else if x.kind = 1 then (⟨0, (nDeliver S x.a x.b x.lost x.again).1.1, (nDeliver S x.a x.b x.lost x.again).1.2⟩, (nDeliver S x.a x.b x.lost x.again).2)
  else if x.kind = 2 then (⟨(nTurn S x.a x.b true).1, ⟨#[]⟩, false⟩, (nTurn S x.a x.b true).2)
  else (⟨(nTurn S x.a x.b false).1, ⟨#[]⟩, false⟩, (nTurn S x.a x.b false).2)
theorem QB.do {S : NS} (h : QB S) (x : Stp) : QB (nDo S x).2 := by
  unfold nDo
  split
  · exact h.send _ _ _
  · split
    · exact h.deliver _ _ _ _
    · split
      · exact h.turn _ _ _
      · exact h.turn _ _ _

theorem elem_step {H : Type} {enc : TypeId × Value → H} {W : World} (fuel : Nat) (cs' : List Value) (x : DataW H × List MemPlace) (h : DataW.trod enc Try.prog W 0 (fun _ => true) true fuel 45 cs' = some x) :
    ∃ a : Stp, cs' = a.cells ∧ (a.text.size ≤ maxLen ∧ (Lit.int .i64 a.kind).wf = true) := by
  obtain ⟨xs, n, _, rfl, hl, hlen, hf⟩ := DataW.trod_struct Try.underlying45 h
  have h6 : Try.prog.cellsOf 45 = 6 := by kernel_rfl
  rw [h6] at hl
  obtain ⟨c0, c1, c2, c3, c4, c5, rfl⟩ : ∃ c0 c1 c2 c3 c4 c5, cs' = [c0, c1, c2, c3, c4, c5] := by
    match cs', hl with
    | [c0, c1, c2, c3, c4, c5], _ => exact ⟨c0, c1, c2, c3, c4, c5, rfl⟩
  have e3 : Try.prog.cellsOf 3 = 1 := by kernel_rfl
  have e4 : Try.prog.cellsOf 4 = 1 := by kernel_rfl
  have e9 : Try.prog.cellsOf 9 = 1 := by kernel_rfl
  match xs, hlen with
  | [y0, y1, y2, y3, y4, y5], _ =>
    have g0 := hf 0 _ rfl
    have g1 := hf 1 _ rfl
    have g2 := hf 2 _ rfl
    have g3 := hf 3 _ rfl
    have g4 := hf 4 _ rfl
    have g5 := hf 5 _ rfl
    simp at g0 g1 g2 g3 g4 g5
    rw [e3] at g0 g1 g2
    rw [e9] at g3
    rw [e4] at g4 g5
    simp at g0 g1 g2 g3 g4
    have t5 : List.take 1 [c5] = [c5] := rfl
    rw [t5] at g5
    obtain ⟨k, hk, _, hkw⟩ := DataW.trod_int Try.underlying3 g0
    obtain ⟨a, ha, _, haw⟩ := DataW.trod_int Try.underlying3 g1
    obtain ⟨b, hb, _, hbw⟩ := DataW.trod_int Try.underlying3 g2
    obtain ⟨t, ht, _, hts⟩ := DataW.trod_string Try.underlying9 g3
    obtain ⟨l, hlo, _⟩ := DataW.trod_bool Try.underlying4 g4
    obtain ⟨g, hg, _⟩ := DataW.trod_bool Try.underlying4 g5
    simp only [List.cons.injEq, and_true] at hk ha hb ht hlo hg
    subst hk ha hb ht hlo hg
    exact ⟨⟨k, a, b, t, l, g⟩, rfl, hts, hkw⟩

theorem three_cells {w : World} {g : Nat} {u0 u1 u2 : Value} {T : TypeId} (h : w.heap[g]? = some (.cells #[u0, u1, u2] T)) :
    w.cell? ⟨g, 0, none⟩ = some u0 ∧ w.cell? ⟨g, 1, none⟩ = some u1 ∧ w.cell? ⟨g, 2, none⟩ = some u2 ∧ (∀ o, w.frozen? ⟨g, o, none⟩ = false) := by
  refine ⟨?_, ?_, ?_, fun o => frozen_of_row w g o _ T h⟩
  · rw [cell_of_row w g _ _ T (0, 0) h]; rfl
  · rw [cell_of_row w g _ _ T (0, 0) h]; rfl
  · rw [cell_of_row w g _ _ T (0, 0) h]; rfl
theorem set3 {w : World} {g : Nat} {u0 u1 u2 : Value} {T : TypeId} (h : w.heap[g]? = some (.cells #[u0, u1, u2] T)) (v0 v1 v2 : Value) :
    (((w.setCell ⟨g, 0, none⟩ v0).setCell ⟨g, 1, none⟩ v1).setCell ⟨g, 2, none⟩ v2).heap[g]? = some (.cells #[v0, v1, v2] T) := by
  have h1 := heap_setCell_same w g 0 _ T v0 h
  have h2 := heap_setCell_same _ g 1 _ T v1 h1
  have h3 := heap_setCell_same _ g 2 _ T v2 h2
  exact h3
theorem fr_set3 {w : World} {F : Nat → Prop} {g : Nat} (hg : F g) (v0 v1 v2 : Value) : Fr F w (((w.setCell ⟨g, 0, none⟩ v0).setCell ⟨g, 1, none⟩ v1).setCell ⟨g, 2, none⟩ v2) :=
  (((Fr.refl F w).setCell (.inl hg) _).setCell (.inl hg) _).setCell (.inl hg) _
def doW (w : World) (x : Stp) : World := (w.alloc (.cells #[.int .i64 x.kind, .int .i64 x.a, .int .i64 x.b, .string x.text, .bool x.lost, .bool x.again] 45)).alloc (.cells #[.int .i64 0, .string ⟨#[]⟩, .bool false] 42)
theorem doW_fr (w : World) (x : Stp) : Fr None' w (doW w x) := ((Fr.refl None' w).alloc _).alloc _
theorem doW_size (w : World) (x : Stp) : (doW w x).heap.size = w.heap.size + 2 := by simp [doW]
theorem doW_blk {w w1 : World} {F : Nat → Prop} {x : Stp} (hf : Fr F (doW w x) w1) (hF : ∀ k, w.heap.size ≤ k → ¬ F k) : w1.heap[w.heap.size + 1]? = some (.cells #[.int .i64 0, .string ⟨#[]⟩, .bool false] 42) :=
  hf.heap (heap_alloc2_new w _ _) (hF _ (Nat.le_succ _))
theorem doW_box {w w1 : World} {F : Nat → Prop} {x : Stp} (hf : Fr F (doW w x) w1) (hF : ∀ k, w.heap.size ≤ k → ¬ F k) : w1.heap[w.heap.size]? = some (.cells #[.int .i64 x.kind, .int .i64 x.a, .int .i64 x.b, .string x.text, .bool x.lost, .bool x.again] 45) :=
  hf.heap (heap_alloc2_old w _ _) (hF _ (Nat.le_refl _))
theorem do_end {w w1 w2 : World} {F : Nat → Prop} {g : Nat} {S : NS} {x : Stp} (hn : NetS w1 (Ext F (doW w x) w1) g S) (hf : Fr F (doW w x) w1) (hF : ∀ k, w.heap.size ≤ k → ¬ F k)
    (h2 : Fr (fun k => k = w.heap.size + 1) w1 w2) : NetS w2 (Ext F w w2) g S ∧ Fr F w w2 := by
  have hd : ∀ k, Ext F (doW w x) w1 k → ¬ k = w.heap.size + 1 := by
    intro k hk he
    subst he
    rcases hk with hk | hk
    · exact hF _ (Nat.le_succ _) hk
    · have := hk.1; rw [doW_size] at this; omega
  refine ⟨(hn.fr h2 hd).mono (fun k hk => ?_), ?_⟩
  · rcases hk with hk | hk
    · exact .inl hk
    · exact .inr ⟨by have := hk.1; rw [doW_size] at this; omega, Nat.lt_of_lt_of_le hk.2 h2.size⟩
  · have h01 : Fr F w w1 := (fr_none (doW_fr w x)).trans hf (fun _ _ h => h)
    exact h01.trans h2 (fun i hi hk => by omega)
theorem do_any {w : World} {F : Nat → Prop} {g : Nat} {S : NS} (hn : NetS w F g S) (hF : ∀ k, w.heap.size ≤ k → ¬ F k) (hQ : QB S) (x : Stp) (ht : x.text.size ≤ 9223372036854775807) :
    Calls Try.prog 17 #[.pointer (some ⟨g, 0, none⟩), x.val] w fun e w' => e = .returned (nDo S x).1.val ∧ NetS w' (Ext F w w') g (nDo S x).2 ∧ Fr F w w' := by
  obtain ⟨k, a, b, t, l, gn⟩ := x
  simp only [Stp.val]
  simp only at ht
  have Hn := Lib.hid hn
  have HF := Lib.hid hF
  clear hn hF
  by_cases h0 : k = 0
  · subst h0
    simp only [nDo, if_true]
    have H0 : Hid (NetS (doW w ⟨0, a, b, t, l, gn⟩) F g S) := Lib.hid (Hn.out.fr (doW_fr w _) (fun _ _ h => h))
    go_enter Try.func17, Try.ntmps17
    go_wp2_with fail
    refine (s_send H0.out a b t ht).mono ?_
    rintro e w1 ⟨rfl, hn1, hf1⟩
    have hblk := doW_blk hf1 HF.out
    obtain ⟨hc0, hc1, hc2, hz⟩ := three_cells hblk
    have Hblk := Lib.hid hblk
    have Hn1 := Lib.hid hn1
    have Hf1 := Lib.hid hf1
    clear hn1 hf1 hblk
    go_wp2_with fail
    try simp only [Exit.inBlock, Exit.then]
    refine bodyPost_ret (results_cell_row rfl _ _ (w.heap.size + 1) 42 #[.int .i64 (nSend S a b t).1, .string ⟨#[]⟩, .bool false] (0, 0) _ rfl (set3 Hblk.out _ _ _) Try.underlying42 rfl (by kernel_rfl)) rfl ?_
    exact ⟨rfl, do_end Hn1.out Hf1.out HF.out (fr_set3 (F := fun k => k = w.heap.size + 1) rfl _ _ _)⟩
  · by_cases h1 : k = 1
    · subst h1
      simp only [nDo, if_true, show ¬ ((1 : Int) = 0) from by decide, if_false]
      have H0 : Hid (NetS (doW w ⟨1, a, b, t, l, gn⟩) F g S) := Lib.hid (Hn.out.fr (doW_fr w _) (fun _ _ h => h))
      go_enter Try.func17, Try.ntmps17
      go_wp2_with fail
      refine (s_deliver H0.out (fun k hk => HF.out k (by rw [doW_size] at hk; omega)) hQ a b l gn).mono ?_
      rintro e w1 ⟨rfl, hn1, hf1⟩
      have hblk := doW_blk hf1 HF.out
      obtain ⟨hc0, hc1, hc2, hz⟩ := three_cells hblk
      have Hblk := Lib.hid hblk
      have Hn1 := Lib.hid hn1
      have Hf1 := Lib.hid hf1
      clear hn1 hf1 hblk
      go_wp2_with fail
      try simp only [Exit.inBlock, Exit.then]
      refine bodyPost_ret (results_cell_row rfl _ _ (w.heap.size + 1) 42 #[.int .i64 0, .string (nDeliver S a b l gn).1.1, .bool (nDeliver S a b l gn).1.2] (0, 0) _ rfl (set3 Hblk.out _ _ _) Try.underlying42 rfl (by kernel_rfl)) rfl ?_
      exact ⟨rfl, do_end Hn1.out Hf1.out HF.out (fr_set3 (F := fun k => k = w.heap.size + 1) rfl _ _ _)⟩
    · have e0 : (k == 0) = false := by simpa using h0
      have e1 : (k == 1) = false := by simpa using h1
      by_cases h2 : k = 2
      · subst h2
        simp only [nDo, if_true, show ¬ ((2 : Int) = 0) from by decide, show ¬ ((2 : Int) = 1) from by decide, if_false]
        have H0 : Hid (NetS (doW w ⟨2, a, b, t, l, gn⟩) F g S) := Lib.hid (Hn.out.fr (doW_fr w _) (fun _ _ h => h))
        go_enter Try.func17, Try.ntmps17
        go_wp2_with fail
        refine (s_cut H0.out (fun k hk => HF.out k (by rw [doW_size] at hk; omega)) a b).mono ?_
        rintro e w1 ⟨rfl, hn1, hf1⟩
        have hblk := doW_blk hf1 HF.out
        obtain ⟨hc0, hc1, hc2, hz⟩ := three_cells hblk
        have Hblk := Lib.hid hblk
        have Hn1 := Lib.hid hn1
        have Hf1 := Lib.hid hf1
        clear hn1 hf1 hblk
        go_wp2_with fail
        try simp only [Exit.inBlock, Exit.then]
        refine bodyPost_ret (results_cell_row rfl _ _ (w.heap.size + 1) 42 #[.int .i64 (nTurn S a b true).1, .string ⟨#[]⟩, .bool false] (0, 0) _ rfl (set3 Hblk.out _ _ _) Try.underlying42 rfl (by kernel_rfl)) rfl ?_
        exact ⟨rfl, do_end Hn1.out Hf1.out HF.out (fr_set3 (F := fun k => k = w.heap.size + 1) rfl _ _ _)⟩
      · have e2 : (k == 2) = false := by simpa using h2
        simp only [nDo, if_neg h0, if_neg h1, if_neg h2]
        have H0 : Hid (NetS (doW w ⟨k, a, b, t, l, gn⟩) F g S) := Lib.hid (Hn.out.fr (doW_fr w _) (fun _ _ h => h))
        go_enter Try.func17, Try.ntmps17
        go_wp2_with fail
        refine (s_heal H0.out (fun k hk => HF.out k (by rw [doW_size] at hk; omega)) a b).mono ?_
        rintro e w1 ⟨rfl, hn1, hf1⟩
        have hblk := doW_blk hf1 HF.out
        obtain ⟨hc0, hc1, hc2, hz⟩ := three_cells hblk
        have Hblk := Lib.hid hblk
        have Hn1 := Lib.hid hn1
        have Hf1 := Lib.hid hf1
        clear hn1 hf1 hblk
        go_wp2_with fail
        try simp only [Exit.inBlock, Exit.then]
        refine bodyPost_ret (results_cell_row rfl _ _ (w.heap.size + 1) 42 #[.int .i64 (nTurn S a b false).1, .string ⟨#[]⟩, .bool false] (0, 0) _ rfl (set3 Hblk.out _ _ _) Try.underlying42 rfl (by kernel_rfl)) rfl ?_
        exact ⟨rfl, do_end Hn1.out Hf1.out HF.out (fr_set3 (F := fun k => k = w.heap.size + 1) rfl _ _ _)⟩

/-- A slice of steps. -/
abbrev RdP (w : World) (v : Value) (l : List Stp) : Prop := RdL Stp.cells 6 w v l
def fewB (l : List Stp) : Bool := decide (l.length ≤ 150 ∧ ∀ x ∈ l, x.text.size ≤ 100)
theorem RdP.get {w : World} {g off n cap : Nat} {l : List Stp} (h : RdP w (.slice (some ⟨g, off, none⟩) n cap) l) {k : Nat} {x : Stp} (hx : l[k]? = some x) :
    w.cell? ⟨g, off + k * 6, none⟩ = some (.int .i64 x.kind) ∧ w.cell? ⟨g, off + k * 6 + 1, none⟩ = some (.int .i64 x.a) ∧ w.cell? ⟨g, off + k * 6 + 2, none⟩ = some (.int .i64 x.b) ∧
    w.cell? ⟨g, off + k * 6 + 3, none⟩ = some (.string x.text) ∧ w.cell? ⟨g, off + k * 6 + 4, none⟩ = some (.bool x.lost) ∧ w.cell? ⟨g, off + k * 6 + 5, none⟩ = some (.bool x.again) := by
  obtain ⟨A, n', cap', he, hn, hl, h0⟩ := h
  cases he
  have hk : k < l.length := (List.getElem?_eq_some_iff.1 hx).1
  obtain ⟨g', off', he', hc⟩ := h0 (by omega)
  cases he'
  exact ⟨hc k x hx 0 _ rfl, hc k x hx 1 _ rfl, hc k x hx 2 _ rfl, hc k x hx 3 _ rfl, hc k x hx 4 _ rfl, hc k x hx 5 _ rfl⟩
theorem few_ref {w : World} {v : Value} {l : List Stp} (h : RdP w v l) (hm : ∀ x ∈ l, x.text.size ≤ 9223372036854775807) : Calls Try.prog 25 #[v] w fun e w' => e = .returned (.bool (fewB l)) ∧ w' = w := by
  obtain ⟨A, n, cap, rfl, hn, hl, h0⟩ := id h
  by_cases h150 : n ≤ 150
  · go_enter Try.func25, Try.ntmps25
    have hI : (n : Int) ≤ 150 := by omega
    go_wp2_with fail
    go_loopw [3] (fun i wr => wr = w ∧ ∃ k : Nat, k ≤ n ∧ i = .int .i64 k ∧ ∀ x ∈ l.take k, x.text.size ≤ 100) (fun i _ => n - (intOf i).toNat)
    case atStart => exact ⟨rfl, 0, Nat.zero_le _, rfl, by simp⟩
    case round =>
      obtain ⟨rfl, k, hk, rfl, hall⟩ := hrel
      by_cases hlt : k < n
      · have hltI : (k : Int) < (n : Int) := by omega
        obtain ⟨g, off, rfl, _⟩ := h0 (by omega)
        obtain ⟨x, hx⟩ : ∃ x, l[k]? = some x := ⟨l[k]'(by omega), List.getElem?_eq_getElem (by omega)⟩
        obtain ⟨c0, c1, c2, c3, c4, c5⟩ := h.get hx
        have hxs := hm x (List.mem_of_getElem? hx)
        by_cases h100 : x.text.size ≤ 100
        · have h100I : ¬ (100 < (x.text.size : Int)) := by omega
          go_wp2_with fail
          refine ⟨⟨k + 1, by omega, by go_num, fun y hy => ?_⟩, by simp [intOf]; omega⟩
          rw [List.take_add_one, hx] at hy
          simp at hy
          rcases hy with hy | rfl
          · exact hall y hy
          · exact h100
        · have h100I : 100 < (x.text.size : Int) := by omega
          have hb : fewB l = false := by
            rw [fewB, decide_eq_false_iff_not]
            exact fun h => h100 (h.2 x (List.mem_of_getElem? hx))
          clear h100
          go_wp2_with fail
          go_ret
          exact ⟨by rw [hb]; rfl, rfl⟩
      · have hb : fewB l = true := by
          rw [fewB, decide_eq_true_eq]
          refine ⟨by omega, ?_⟩
          rw [List.take_of_length_le (by omega)] at hall
          exact hall
        have hI' : ¬ ((k : Int) < (n : Int)) := by omega
        go_wp2_with fail
        go_ret
        refine ⟨?_, rfl⟩
        simp [hb]
        try omega
  · have hb : fewB l = false := by
      rw [fewB, decide_eq_false_iff_not]
      exact fun h => h150 (by omega)
    have hI : 150 < (n : Int) := by omega
    clear h150
    go_enter Try.func25, Try.ntmps25
    go_wp2_with fail
    go_loopw [3] (fun i wr => wr = w ∧ i = .int .i64 0) (fun _ _ => 0)
    case atStart => exact ⟨rfl, rfl⟩
    case round =>
      obtain ⟨rfl, rfl⟩ := hrel
      have h0' : (0 : Int) < (n : Int) := by omega
      go_wp2_with fail
      go_ret
      refine ⟨?_, rfl⟩
      rw [hb]
      simp
      try omega
theorem few_any {w : World} {v : Value} {l : List Stp} (h : RdP w v l) (hm : ∀ x ∈ l, x.text.size ≤ 9223372036854775807) : Calls Try.prog 15 #[v] w fun e w' => e = .returned (.bool (fewB l)) ∧ w' = w := by
  have H := Lib.hid (few_ref h hm)
  go_enter Try.func15, Try.ntmps15
  go_wp2_with fail
  refine H.out.mono ?_
  rintro e w' ⟨rfl, rfl⟩
  go_wp2_with fail
  go_ret
  exact ⟨rfl, rfl⟩
end Go.Proofs.Ytdgcimjpggjnjaa

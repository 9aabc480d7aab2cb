/- The reference of chapter 36: New. -/
import Derived.Test.YtdjaofkbgkifkaaE44
set_option linter.unusedVariables false
set_option linter.unusedSimpArgs false
namespace Go.Proofs.Ytdjaofkbgkifkaa
open Go.RowKit

theorem info4 : (Try.prog.info? 4).map (fun i => (i.zero, i.size, i.bytes)) = some (some (.bool false), 1, 1) := by kernel_rfl
theorem info149 : (Try.prog.info? 149).map (fun i => (i.zero, i.size, i.bytes)) = some (some (.agg #[.slice none 0 0, .int .i64 0, .int .i64 0, .slice none 0 0]), 4, 64) := by kernel_rfl
theorem info146 : (Try.prog.info? 146).map (fun i => (i.zero, i.size, i.bytes)) = some (some (.slice none 0 0), 1, 24) := by kernel_rfl
theorem mk74 (n : Nat) (h : n ≤ 8) : ∃ X : Array Value, X.toList = List.replicate n (.int .i64 0) ∧ ∀ w : World, (Instr.makeSlice 74 (.int .i64 n) (.int .i64 n)).run Try.prog w = .ok (.slice (some ⟨w.heap.size, 0, none⟩) n n) (w.alloc (.cells X 3)) := by
  obtain ⟨i, hi, hh⟩ := Option.map_eq_some_iff.1 info3
  obtain ⟨h1, h2, h3⟩ : i.zero = some (.int .i64 0) ∧ i.size = 1 ∧ i.bytes = 8 := by simpa using hh
  have hb : (i.bytes : Int) * (n : Int) ≤ 281474976710656 := by rw [h3]; omega
  refine ⟨madeCells #[.int .i64 0] n, madeCells_one _ _, fun w => ?_⟩
  have hr := run_make (P := Try.prog) w 74 3 i _ Try.underlying74 hi h1 .i64 .i64 n n (by omega) (Int.le_refl _) hb (by omega)
  simp only [Int.toNat_natCast, h2, Nat.mul_one] at hr
  exact hr
theorem mk142 (n : Nat) (h : n ≤ 8) : ∃ X : Array Value, X.toList = List.replicate n (.bool false) ∧ ∀ w : World, (Instr.makeSlice 142 (.int .i64 n) (.int .i64 n)).run Try.prog w = .ok (.slice (some ⟨w.heap.size, 0, none⟩) n n) (w.alloc (.cells X 4)) := by
  obtain ⟨i, hi, hh⟩ := Option.map_eq_some_iff.1 info4
  obtain ⟨h1, h2, h3⟩ : i.zero = some (.bool false) ∧ i.size = 1 ∧ i.bytes = 1 := by simpa using hh
  have hb : (i.bytes : Int) * (n : Int) ≤ 281474976710656 := by rw [h3]; omega
  refine ⟨madeCells #[.bool false] n, madeCells_one _ _, fun w => ?_⟩
  have hr := run_make (P := Try.prog) w 142 4 i _ Try.underlying142 hi h1 .i64 .i64 n n (by omega) (Int.le_refl _) hb (by omega)
  simp only [Int.toNat_natCast, h2, Nat.mul_one] at hr
  exact hr
def zpair : List Value := [.slice none 0 0, .int .i64 0, .int .i64 0, .slice none 0 0]
theorem mk146 (n : Nat) (h : n ≤ 8) : ∃ X : Array Value, X.toList = (List.range n).flatMap (fun _ => zpair) ∧ ∀ w : World, (Instr.makeSlice 146 (.int .i64 n) (.int .i64 n)).run Try.prog w = .ok (.slice (some ⟨w.heap.size, 0, none⟩) n n) (w.alloc (.cells X 149)) := by
  obtain ⟨i, hi, hh⟩ := Option.map_eq_some_iff.1 info149
  obtain ⟨h1, h2, h3⟩ : i.zero = some (.agg #[.slice none 0 0, .int .i64 0, .int .i64 0, .slice none 0 0]) ∧ i.size = 4 ∧ i.bytes = 64 := by simpa using hh
  have hb : (i.bytes : Int) * (n : Int) ≤ 281474976710656 := by rw [h3]; omega
  refine ⟨madeCells #[.slice none 0 0, .int .i64 0, .int .i64 0, .slice none 0 0] (n * 4), ?_, fun w => ?_⟩
  · have e : (madeCells #[.slice none 0 0, .int .i64 0, .int .i64 0, .slice none 0 0] (n * 4)).toList = (List.range (n * 4)).map (fun i => (#[.slice none 0 0, .int .i64 0, .int .i64 0, .slice none 0 0] : Array Value)[i % 4]!) := by simp [madeCells]
    rw [e]
    have : n = 0 ∨ n = 1 ∨ n = 2 ∨ n = 3 ∨ n = 4 ∨ n = 5 ∨ n = 6 ∨ n = 7 ∨ n = 8 := by omega
    rcases this with rfl | rfl | rfl | rfl | rfl | rfl | rfl | rfl | rfl <;> rfl
  · have hr := run_make (P := Try.prog) w 146 149 i _ Try.underlying146 hi h1 .i64 .i64 n n (by omega) (Int.le_refl _) hb (by omega)
    simp only [Int.toNat_natCast, h2, Value.cells] at hr
    exact hr
theorem rnew_bad (n u : Int) (w : World) (h : n < 1 ∨ 8 < n ∨ u < 0 ∨ 1000000000 < u) :
    Calls Try.prog 35 #[.int .i64 n, .int .i64 u] w fun e w' => e = .returned (.tuple #[.pointer none, .int .i64 1]) ∧ w' = w := by
  by_cases h1 : n < 1
  · clear h
    go_enter Try.func35, Try.ntmps35
    go_wp2
    go_ret2
    exact ⟨rfl, rfl⟩
  by_cases h2 : 8 < n
  · clear h
    go_enter Try.func35, Try.ntmps35
    go_wp2
    go_ret2
    exact ⟨rfl, rfl⟩
  by_cases h3 : u < 0
  · clear h
    go_enter Try.func35, Try.ntmps35
    go_wp2
    go_ret2
    exact ⟨rfl, rfl⟩
  have h4 : 1000000000 < u := by omega
  clear h
  go_enter Try.func35, Try.ntmps35
  go_wp2
  go_ret2
  exact ⟨rfl, rfl⟩
theorem three {w W : World} {O1 O2 O3 O4 : Obj} (hW : ((((w.alloc O1).alloc O2).alloc O3).alloc O4).drew = W) : W.heap[w.heap.size]? = some O1 ∧ W.heap[w.heap.size + 1]? = some O2 ∧ W.heap[w.heap.size + 1 + 1]? = some O3 ∧ W.heap[w.heap.size + 1 + 1 + 1]? = some O4 ∧ W.heap.size = w.heap.size + 4 ∧ Fr None' w W := by
  have s1 : (w.alloc O1).heap.size = w.heap.size + 1 := by simp
  have s2 : ((w.alloc O1).alloc O2).heap.size = w.heap.size + 1 + 1 := by simp
  have s3 : (((w.alloc O1).alloc O2).alloc O3).heap.size = w.heap.size + 1 + 1 + 1 := by simp
  subst hW
  refine ⟨?_, ?_, ?_, ?_, ?_, ((((Fr.refl None' w).alloc _).alloc _).alloc _).alloc _ |>.drew⟩
  · show ((((w.alloc O1).alloc O2).alloc O3).alloc O4).heap[_]? = _
    rw [Below.heap_alloc _ _ _ (by omega), Below.heap_alloc _ _ _ (by omega), Below.heap_alloc _ _ _ (by omega)]; exact heap_alloc_new _ _
  · show ((((w.alloc O1).alloc O2).alloc O3).alloc O4).heap[_]? = _
    rw [Below.heap_alloc _ _ _ (by omega), Below.heap_alloc _ _ _ (by omega), ← s1]; exact heap_alloc_new _ _
  · show ((((w.alloc O1).alloc O2).alloc O3).alloc O4).heap[_]? = _
    rw [Below.heap_alloc _ _ _ (by omega), ← s2]; exact heap_alloc_new _ _
  · show ((((w.alloc O1).alloc O2).alloc O3).alloc O4).heap[_]? = _
    rw [← s3]; exact heap_alloc_new _ _
  · show ((((w.alloc O1).alloc O2).alloc O3).alloc O4).heap.size = _
    simp
theorem row_made {w : World} {b n : Nat} {X : Array Value} {T : TypeId} (h8 : n ≤ 8) (h : w.heap[b]? = some (.cells X T)) {z : Value} (hX : X.toList = List.replicate n z) : Row w 1 (.slice (some ⟨b, 0, none⟩) n n) (List.replicate n z) := by
  have hs : X.size = n := by rw [← Array.length_toList, hX, List.length_replicate]
  refine ⟨_, n, n, rfl, by simp, Nat.le_refl _, by simp [maxLen]; omega, .inr ⟨b, 0, X, T, rfl, h, by omega, ?_⟩⟩
  rw [hX, List.drop_zero, List.take_of_length_le (by simp)]
theorem row_made4 {w : World} {b n : Nat} {X : Array Value} {T : TypeId} (h8 : n ≤ 8) (h : w.heap[b]? = some (.cells X T)) (hX : X.toList = (List.range n).flatMap (fun _ => zpair)) : Row w 4 (.slice (some ⟨b, 0, none⟩) n n) ((List.range n).flatMap (fun _ => zpair)) := by
  have hl : ((List.range n).flatMap (fun _ => zpair)).length = n * 4 := by rw [flat_length (fun _ : Nat => zpair) 4 (fun _ => rfl), List.length_range]
  have hs : X.size = n * 4 := by rw [← Array.length_toList, hX, hl]
  refine ⟨_, n, n, rfl, hl, Nat.le_refl _, by simp [maxLen]; omega, .inr ⟨b, 0, X, T, rfl, h, by omega, ?_⟩⟩
  rw [hX, List.drop_zero, List.take_of_length_le (by rw [hl]; exact Nat.le_refl _)]
/-- What New has made before the pairs: three lists and the box. -/
structure N3 (w w3 : World) (n : Nat) (g : Nat) (vU vS vR : Value) : Prop where
  box : w3.heap[g]? = some (.cells #[vU, vS, vR, .slice none 0 0] 145)
  un : Row w3 1 vU (List.replicate n (.int .i64 0))
  us : Row w3 1 vS (List.replicate n (.int .i64 0))
  re : Row w3 1 vR (List.replicate n (.bool false))
  bl : ∀ k, (rowBlk vU = some k ∨ rowBlk vS = some k ∨ rowBlk vR = some k) → w.heap.size ≤ k ∧ k < g
  d1 : ∀ k, rowBlk vU = some k → rowBlk vS ≠ some k ∧ rowBlk vR ≠ some k
  d2 : ∀ k, rowBlk vS = some k → rowBlk vR ≠ some k
  sz : w3.heap.size = g + 1
  gs : w.heap.size ≤ g
  fr : Fr None' w w3
theorem blk_lit {b n k : Nat} (h : rowBlk (.slice (some ⟨b, 0, none⟩) n n) = some k) : b = k := by
  simp only [rowBlk] at h
  split at h
  · cases h
  · cases h; rfl
theorem N3.mk' {w w3 : World} {n g bu bs bv : Nat} (h8 : n ≤ 8) {X Y : Array Value} (hX : X.toList = List.replicate n (.int .i64 0)) (hY : Y.toList = List.replicate n (.bool false))
    (hb : w3.heap[g]? = some (.cells #[.slice (some ⟨bu, 0, none⟩) n n, .slice (some ⟨bs, 0, none⟩) n n, .slice (some ⟨bv, 0, none⟩) n n, .slice none 0 0] 145))
    (hu : w3.heap[bu]? = some (.cells X 3)) (hs : w3.heap[bs]? = some (.cells X 3)) (hv : w3.heap[bv]? = some (.cells Y 4)) (e : g = w.heap.size + 1 + 1 + 1)
    (h1 : w.heap.size ≤ bu ∧ bu < g) (h2 : w.heap.size ≤ bs ∧ bs < g) (h3 : w.heap.size ≤ bv ∧ bv < g) (n1 : bu ≠ bs) (n2 : bu ≠ bv) (n3 : bs ≠ bv) (sz : w3.heap.size = w.heap.size + 4) (fr : Fr None' w w3) :
    ∃ vU vS vR, N3 w w3 n g vU vS vR := by
  refine ⟨_, _, _, hb, row_made h8 hu hX, row_made h8 hs hX, row_made h8 hv hY, ?_, ?_, ?_, by omega, by omega, fr⟩
  · rintro k (h | h | h) <;> (have := blk_lit h; omega)
  · intro k h
    have := blk_lit h
    exact ⟨fun h' => by have := blk_lit h'; omega, fun h' => by have := blk_lit h'; omega⟩
  · intro k h h'
    have := blk_lit h
    have := blk_lit h'
    omega
/-- The state of New's loop. -/
structure NP (n g : Nat) (vU vS vR : Value) (w3 wr : World) (i : Nat) (vP : Value) (rb : Nat → Nat) : Prop where
  box : wr.heap[g]? = some (.cells #[vU, vS, vR, vP] 145)
  out : Row wr 1 vP ((List.range i).flatMap fun a => [.slice (some ⟨rb a, 0, none⟩) n n])
  row : ∀ a, a < i → Row wr 4 (.slice (some ⟨rb a, 0, none⟩) n n) ((List.range n).flatMap (fun _ => zpair))
  bp : ∀ k, rowBlk vP = some k → g < k ∧ ∀ a, a < i → rb a ≠ k
  br : ∀ a, a < i → g < rb a ∧ rb a < wr.heap.size
  mo : ∀ a b, a < b → b < i → rb a < rb b
  fr : Fr (fun k => k = g) w3 wr
theorem NP.start {w w3 : World} {n g : Nat} {vU vS vR : Value} (h : N3 w w3 n g vU vS vR) : NP n g vU vS vR w3 w3 0 (.slice none 0 0) (fun _ => 0) :=
  ⟨h.box, Row.nil _ _ _, fun a h => by omega, by simp [rowBlk], fun a h => by omega, fun a b _ h => by omega, Fr.refl _ _⟩
theorem NP.step {w w3 wr w4 : World} {n g : Nat} {vU vS vR vP v4 : Value} {i : Nat} {rb : Nat → Nat} {Z : Array Value} {O : Obj} (h8 : n ≤ 8) (hn : N3 w w3 n g vU vS vR) (h : NP n g vU vS vR w3 wr i vP rb) (hZ : Z.toList = (List.range n).flatMap (fun _ => zpair))
    (hr4 : Row w4 1 v4 (((List.range i).flatMap fun a => [Value.slice (some ⟨rb a, 0, none⟩) n n]) ++ [.slice (some ⟨wr.heap.size, 0, none⟩) n n])) (hg4 : World.grownBy (((wr.alloc (.cells Z 149)).alloc O).drew) w4 (rowBlk vP)) (hb4 : rowBlk v4 = rowBlk vP ∨ rowBlk v4 = some (((wr.alloc (.cells Z 149)).alloc O).drew).heap.size) :
    w4.heap[g]? = some (.cells #[vU, vS, vR, vP] 145) ∧ NP n g vU vS vR w3 (w4.setCell ⟨g, 3, none⟩ v4) (i + 1) v4 (fun a => if a = i then wr.heap.size else rb a) := by
  obtain ⟨wa, hwa⟩ : ∃ wa, wa = ((wr.alloc (.cells Z 149)).alloc O).drew := ⟨_, rfl⟩
  rw [← hwa] at hg4 hb4
  have sa : wa.heap.size = wr.heap.size + 2 := by rw [hwa]; show ((wr.alloc (.cells Z 149)).alloc O).heap.size = _; simp
  have fa : Fr None' wr wa := by rw [hwa]; exact (((Fr.refl None' wr).alloc _).alloc _).drew
  have gl : g < wr.heap.size := (Array.getElem?_eq_some_iff.1 h.box).1
  have za : wa.heap[wr.heap.size]? = some (.cells Z 149) := by
    rw [hwa]; show ((wr.alloc (.cells Z 149)).alloc O).heap[wr.heap.size]? = _
    rw [Below.heap_alloc _ _ _ (by simp)]; exact heap_alloc_new _ _
  have s4 := hg4.size
  have b4 : w4.heap[g]? = some (.cells #[vU, vS, vR, vP] 145) := (hg4.block g (by omega) (fun e => by have := (h.bp g e.symm).1; omega)).trans ((fa.block g gl id).trans h.box)
  have z4 : w4.heap[wr.heap.size]? = some (.cells Z 149) := (hg4.block _ (by omega) (fun e => by have := h.out.lt e.symm; omega)).trans za
  have hv4 : ∀ k, rowBlk v4 = some k → g < k ∧ (∀ a, a < i → rb a ≠ k) ∧ k ≠ wr.heap.size := by
    intro k hk
    rcases hb4 with e | e
    · rw [e] at hk
      refine ⟨(h.bp k hk).1, (h.bp k hk).2, fun e2 => by have := h.out.lt hk; omega⟩
    · rw [e] at hk; cases hk
      exact ⟨by omega, fun a ha e2 => by have := (h.br a ha).2; omega, by omega⟩
  refine ⟨b4, ?_, ?_, ?_, ?_, ?_, ?_, ?_⟩
  · exact heap_setCell_same w4 g 3 _ 145 _ b4
  · rw [List.range_succ, List.flatMap_append]
    have e1 : ((List.range i).flatMap fun a => [Value.slice (some ⟨if a = i then wr.heap.size else rb a, 0, none⟩) n n]) = (List.range i).flatMap fun a => [Value.slice (some ⟨rb a, 0, none⟩) n n] := by
      rw [List.flatMap_def, List.flatMap_def]
      refine congrArg List.flatten (List.map_congr_left (fun a ha => ?_))
      rw [if_neg (by have := List.mem_range.1 ha; omega)]
    rw [e1]
    simp only [List.flatMap_cons, List.flatMap_nil, List.append_nil, if_true]
    exact hr4.kept (fun k hk => setCell_other (by show k ≠ g; have := (hv4 k hk).1; omega))
  · intro a ha
    by_cases e : a = i
    · subst e
      simp only [if_true]
      exact (row_made4 h8 z4 hZ).kept (fun k hk => setCell_other (by show k ≠ g; have := blk_lit hk; omega))
    · simp only [if_neg e]
      have hai : a < i := by omega
      refine ((h.row a hai).fr fa (fun _ _ h => h)).kept (fun k hk => ?_)
      have hkb := blk_lit hk
      have hbr := h.br a hai
      rw [setCell_other (by show k ≠ g; omega)]
      exact hg4.block k (by omega) (fun e2 => (h.bp k e2.symm).2 a hai hkb)
  · intro k hk
    refine ⟨(hv4 k hk).1, fun a ha => ?_⟩
    by_cases e : a = i
    · simp only [if_pos e]; exact fun e2 => (hv4 k hk).2.2 e2.symm
    · simp only [if_neg e]; exact (hv4 k hk).2.1 a (by omega)
  · intro a ha
    rw [setCell_size]
    by_cases e : a = i
    · simp only [if_pos e]; omega
    · simp only [if_neg e]; have := h.br a (by omega); omega
  · intro a b hab hb
    have e : a ≠ i := by omega
    simp only [if_neg e]
    by_cases e2 : b = i
    · simp only [if_pos e2]; exact (h.br a (by omega)).2
    · simp only [if_neg e2]; exact h.mo a b hab (by omega)
  · refine ((h.fr.trans0 fa).grown hg4 (fun k hk => .inr ?_)).setCell (.inl rfl) _
    have := (h.bp k hk).1
    have := hn.sz
    omega
theorem rep_flat {α : Type} (f : α → List Value) (x : α) (v : Value) (h : f x = [v]) : ∀ n : Nat, (List.replicate n x).flatMap f = List.replicate n v
  | 0 => rfl
  | n + 1 => by rw [List.replicate_succ, List.flatMap_cons, h, rep_flat f x v h n]; rfl
theorem rep_set_flat {f : Acc → List Value} {n : Nat} {v : Value} {u : Int} (h : f ⟨0, 0, false⟩ = [v]) (h2 : f ⟨u, 0, false⟩ = [v]) : ((List.replicate n (⟨0, 0, false⟩ : Acc)).set 0 ⟨u, 0, false⟩).flatMap f = List.replicate n v := by
  cases n with
  | zero => rfl
  | succ n => rw [List.replicate_succ, List.set_cons_zero, List.flatMap_cons, h2, rep_flat f _ v h n]; rfl
theorem new_end {w w3 wr : World} {n g gu ou cu : Nat} {vS vR vP : Value} {rb : Nat → Nat} {u : Int} (h1 : 1 ≤ n) (hN : N3 w w3 n g (.slice (some ⟨gu, ou, none⟩) n cu) vS vR) (hP : NP n g (.slice (some ⟨gu, ou, none⟩) n cu) vS vR w3 wr n vP rb) (hbu : rowBlk (.slice (some ⟨gu, ou, none⟩) n cu) = some gu) :
    RefIs (wr.setCell ⟨gu, ou, none⟩ (.int .i64 u)) (fun k => w.heap.size ≤ k ∧ k < (wr.setCell ⟨gu, ou, none⟩ (.int .i64 u)).heap.size) g (eNew n u) ∧ Fr None' w (wr.setCell ⟨gu, ou, none⟩ (.int .i64 u)) := by
  have hg := hN.bl gu (.inl hbu)
  have gl : g < wr.heap.size := (Array.getElem?_eq_some_iff.1 hP.box).1
  have s3 := hN.sz
  have frw : Fr None' w wr := hN.fr.trans hP.fr (fun i hi e => by have := hN.gs; omega)
  obtain ⟨ρ, hρ⟩ : ∃ ρ : Nat → RR, ρ = fun k => if k = g then .main else if rowBlk (.slice (some ⟨gu, ou, none⟩) n cu) = some k then .un else if rowBlk vS = some k then .us else if rowBlk vR = some k then .re else if rowBlk vP = some k then .out else match (List.range n).find? (fun a => rb a == k) with | some a => .row a | none => .other := ⟨_, rfl⟩
  have low : ∀ k, (rowBlk (.slice (some ⟨gu, ou, none⟩) n cu) = some k ∨ rowBlk vS = some k ∨ rowBlk vR = some k) → k ≠ g := fun k hk e => by have := hN.bl k hk; omega
  have lowr : ∀ k, g < k → rowBlk (.slice (some ⟨gu, ou, none⟩) n cu) ≠ some k ∧ rowBlk vS ≠ some k ∧ rowBlk vR ≠ some k := fun k hk =>
    ⟨fun e => by have := hN.bl k (.inl e); omega, fun e => by have := hN.bl k (.inr (.inl e)); omega, fun e => by have := hN.bl k (.inr (.inr e)); omega⟩
  have old : ∀ k, (rowBlk (.slice (some ⟨gu, ou, none⟩) n cu) = some k ∨ rowBlk vS = some k ∨ rowBlk vR = some k) → wr.heap[k]? = w3.heap[k]? := fun k hk => hP.fr.block k (by have := hN.bl k hk; omega) (low k hk)
  have nu : ∀ k, k ≠ gu → (wr.setCell ⟨gu, ou, none⟩ (.int .i64 u)).heap[k]? = wr.heap[k]? := fun k hk => setCell_other hk
  have hlen : (eNew n u).acc.length = n := eNew_len n u
  have hfind : ∀ a, a < n → (List.range n).find? (fun x => rb x == rb a) = some a := by
    intro a ha
    have hne : ∀ b, b < n → rb b = rb a → b = a := by
      intro b hb e
      rcases Nat.lt_trichotomy b a with h | h | h
      · have := hP.mo b a h ha; omega
      · exact h
      · have := hP.mo a b h hb; omega
    cases hf : (List.range n).find? (fun x => rb x == rb a) with
    | none =>
      have := List.find?_eq_none.1 hf a (List.mem_range.2 ha)
      simp at this
    | some b =>
      have h1 := List.find?_some hf
      have h2 := List.mem_of_find?_eq_some hf
      rw [hne b (List.mem_range.1 h2) (by simpa using h1)]
  refine ⟨⟨ρ, .slice (some ⟨gu, ou, none⟩) n cu, vS, vR, vP, fun a => .slice (some ⟨rb a, 0, none⟩) n n, fun _ _ => .slice none 0 0, fun _ _ => .slice none 0 0, fun _ _ => [], ?_, ?_⟩, ?_⟩
  · constructor
    · rw [nu g (by omega)]; exact hP.box
    · have h0 : Row wr 1 (.slice (some ⟨gu, ou, none⟩) n cu) ((List.replicate n (⟨0, 0, false⟩ : Acc)).flatMap ucell) := by
        rw [rep_flat ucell _ (.int .i64 0) rfl]
        exact hN.un.kept (fun k hk => old k (.inl hk))
      exact flat_putA ucell_len (r := 0) (x := ⟨0, 0, false⟩) (x' := ⟨u, 0, false⟩) (u := .int .i64 u) (by rw [List.getElem?_replicate, if_pos (by omega)]) rfl h0
    · show Row _ 1 vS (((List.replicate n (⟨0, 0, false⟩ : Acc)).set 0 ⟨u, 0, false⟩).flatMap scell)
      rw [rep_set_flat (f := scell) (v := .int .i64 0) rfl rfl]
      exact hN.us.kept (fun k hk => by rw [nu k (fun e => (hN.d1 gu hbu).1 (by rw [← e]; exact hk))]; exact old k (.inr (.inl hk)))
    · show Row _ 1 vR (((List.replicate n (⟨0, 0, false⟩ : Acc)).set 0 ⟨u, 0, false⟩).flatMap rcell)
      rw [rep_set_flat (f := rcell) (v := .bool false) rfl rfl]
      exact hN.re.kept (fun k hk => by rw [nu k (fun e => (hN.d1 gu hbu).2 (by rw [← e]; exact hk))]; exact old k (.inr (.inr hk)))
    · rw [hlen]; exact hP.out.kept (fun k hk => nu k (by have := (hP.bp k hk).1; omega))
    · intro a ha
      rw [hlen] at ha ⊢
      exact (hP.row a ha).kept (fun k hk => nu k (by have := blk_lit hk; have := (hP.br a ha).1; omega))
    · exact fun a b _ _ => Row.nil _ _ _
    · exact fun a b _ _ => Row.nil _ _ _
    · exact fun a b _ _ => rfl
    · exact fun a b _ _ p hp => by cases hp
    · exact fun a => rfl
    · rw [hρ]; simp only [if_true]
    · intro k hk; rw [hρ]; simp only [if_neg (low k (.inl hk)), if_pos hk]
    · intro k hk
      rw [hρ]; simp only [if_neg (low k (.inr (.inl hk))), if_pos hk]
      rw [if_neg (fun e => (hN.d1 k e).1 hk)]
    · intro k hk
      rw [hρ]; simp only [if_neg (low k (.inr (.inr hk))), if_pos hk]
      rw [if_neg (fun e => (hN.d1 k e).2 hk), if_neg (fun e => hN.d2 k e hk)]
    · intro k hk
      have h1 := (hP.bp k hk).1
      obtain ⟨l1, l2, l3⟩ := lowr k h1
      rw [hρ]; simp only [if_neg (show k ≠ g by omega), if_neg l1, if_neg l2, if_neg l3, if_pos hk]
    · intro a ha k hk
      rw [hlen] at ha
      obtain rfl := blk_lit hk
      have h1 := (hP.br a ha).1
      obtain ⟨l1, l2, l3⟩ := lowr _ h1
      rw [hρ]; simp only [if_neg (show rb a ≠ g by omega), if_neg l1, if_neg l2, if_neg l3, hfind a ha]
      rw [if_neg (fun e => (hP.bp _ e).2 a ha rfl)]
    · intro a b _ _ k hk; simp [rowBlk] at hk
    · intro a b _ _ k hk; simp [rowBlk] at hk
  · intro k hk
    rw [setCell_size]
    rw [hρ] at hk
    simp only [] at hk
    by_cases e : k = g
    · have := hN.gs; omega
    · rw [if_neg e] at hk
      by_cases e1 : rowBlk (.slice (some ⟨gu, ou, none⟩) n cu) = some k ∨ rowBlk vS = some k ∨ rowBlk vR = some k
      · have := hN.bl k e1; omega
      · rw [if_neg (fun e => e1 (.inl e)), if_neg (fun e => e1 (.inr (.inl e))), if_neg (fun e => e1 (.inr (.inr e)))] at hk
        by_cases e2 : rowBlk vP = some k
        · have := (hP.bp k e2).1
          have := hP.out.lt e2
          have := hN.gs
          omega
        · rw [if_neg e2] at hk
          split at hk
          · rename_i a hf
            have h1 := List.find?_some hf
            have h2 := List.mem_range.1 (List.mem_of_find?_eq_some hf)
            have h3 : rb a = k := by simpa using h1
            have := hP.br a h2
            have := hN.gs
            omega
          · exact absurd rfl hk
  · exact frw.setCell (.inr hg.1) _
set_option maxHeartbeats 40000000 in
set_option maxRecDepth 100000 in
theorem rnew_ok (n : Nat) (u : Int) (w : World) (h1 : 1 ≤ n) (h8 : n ≤ 8) (hu : 0 ≤ u) (hu2 : u ≤ 1000000000) :
    Calls Try.prog 35 #[.int .i64 n, .int .i64 u] w fun e w' => ∃ g, e = .returned (.tuple #[.pointer (some ⟨g, 0, none⟩), .int .i64 0]) ∧ RefIs w' (fun k => w.heap.size ≤ k ∧ k < w'.heap.size) g (eNew n u) ∧ Fr None' w w' := by
  obtain ⟨X, hX, k74⟩ := mk74 n h8
  obtain ⟨Y, hY, k142⟩ := mk142 n h8
  have n1 : ¬ (n : Int) < 1 := by omega
  have n2 : ¬ (8 : Int) < n := by omega
  have n3 : ¬ u < 0 := by omega
  have n4 : ¬ (1000000000 : Int) < u := by omega
  have HX := Lib.hid hX
  have HY := Lib.hid hY
  have Hh1 := Lib.hid h1
  clear hX hY hu hu2
  go_enter Try.func35, Try.ntmps35
  go_wp2_with fail
  go_region
  all_goals (
    generalize hW : World.drew _ = w3
    obtain ⟨a0, a1, a2, a3, a4, a5⟩ := three hW
    obtain ⟨vU, vS, vR, hN⟩ : ∃ vU vS vR, N3 w w3 n (w.heap.size + 1 + 1 + 1) vU vS vR := N3.mk' h8 HX.out HY.out a3 (by assumption) (by assumption) (by assumption) rfl (by omega) (by omega) (by omega) (by omega) (by omega) (by omega) a4 a5
    generalize w.heap.size + 1 + 1 + 1 = g at *
    have HN := Lib.hid hN
    have H8 := Lib.hid h8
    clear hW a0 a1 a2 a3 a4 a5 hN k74 k142
    obtain ⟨Z, hZ, k146⟩ := mk146 n H8.out
    have HZ := Lib.hid hZ
    clear hZ
    as_aux_lemma =>
     go_wp2_with fail
     go_loopw [7] (fun iv wr => ∃ (i : Nat) (vP : Value) (rb : Nat → Nat), i ≤ n ∧ iv = .int .i64 (i : Int) ∧ NP n g vU vS vR w3 wr i vP rb) (fun iv _ => n - (intOf iv).toNat)
     case atStart => exact ⟨0, _, _, Nat.zero_le _, rfl, NP.start HN.out⟩
     case round =>
       obtain ⟨i, vP, rb, hi, rfl, hP⟩ := hrel
       obtain ⟨y0, y1, y2, y3, yf⟩ := four_cells hP.box
       obtain ⟨Ap, np, cp, rfl, hlp⟩ := hP.out.form
       have HP := Lib.hid hP
       by_cases hlt : i < n
       · have hltI : (i : Int) < n := by omega
         have hl8 : i ≤ 8 := by have := H8.out; omega
         obtain ⟨wa, hwa⟩ : ∃ wa, wa = ((wr.alloc (.cells Z 149)).alloc (.cells #[.slice (some ⟨wr.heap.size, 0, none⟩) n n] 146)).drew := ⟨_, rfl⟩
         have fa : Fr None' wr wa := by rw [hwa]; exact (((Fr.refl None' wr).alloc _).alloc _).drew
         have hrowa := hP.out.fr fa (fun _ _ h => h)
         have hrda : ReadsAs wa (some ⟨wr.heap.size + 1, 0, none⟩) [.slice (some ⟨wr.heap.size, 0, none⟩) n n] := by
           rw [hwa]
           have e : (wr.alloc (.cells Z 149)).heap.size = wr.heap.size + 1 := by simp
           have := heap_alloc_new (wr.alloc (.cells Z 149)) (.cells #[.slice (some ⟨wr.heap.size, 0, none⟩) n n] 146)
           rw [e] at this
           exact reads_blk (cs := [.slice (some ⟨wr.heap.size, 0, none⟩) n n]) (show ((wr.alloc (.cells Z 149)).alloc (.cells #[.slice (some ⟨wr.heap.size, 0, none⟩) n n] 146)).heap[wr.heap.size + 1]? = _ from this)
         have hone : ∀ u ∈ [Value.slice (some ⟨wr.heap.size, 0, none⟩) n n], u.oneCell' = true := by intro u hu; rw [List.mem_singleton.1 hu]; rfl
         have hll : ((List.range i).flatMap fun a => [Value.slice (some ⟨rb a, 0, none⟩) n n]).length ≤ 1000000 := by rw [flat_length _ 1 (fun _ => rfl), List.length_range]; omega
         have hlen : ((List.range i).flatMap fun a => [Value.slice (some ⟨rb a, 0, none⟩) n n]).length + [Value.slice (some ⟨wr.heap.size, 0, none⟩) n n].length ≤ 9007199254740992 := lim1 hll (by simp)
         have hby : ((((List.range i).flatMap fun a => [Value.slice (some ⟨rb a, 0, none⟩) n n]).length + [Value.slice (some ⟨wr.heap.size, 0, none⟩) n n].length) / 1) * 24 ≤ 140737488355328 := by
           have h1 := hll
           have h2 : [Value.slice (some ⟨wr.heap.size, 0, none⟩) n n].length = 1 := rfl
           rw [h2, Nat.div_one]; omega
         have ya1 : ((wr.alloc (.cells Z 149)).drew).cell? ⟨g, 3, none⟩ = some (.slice Ap np cp) := ((Fr.refl None' wr).alloc (.cells Z 149)).drew.cell y3 id
         have ya3 : wa.cell? ⟨g, 3, none⟩ = some (.slice Ap np cp) := fa.cell y3 id
         have k4 : ∀ (v4 : Value) (w4 : World), Row w4 1 v4 (((List.range i).flatMap fun a => [Value.slice (some ⟨rb a, 0, none⟩) n n]) ++ [.slice (some ⟨wr.heap.size, 0, none⟩) n n]) → wa.grownBy w4 (rowBlk (.slice Ap np cp)) → (rowBlk v4 = rowBlk (.slice Ap np cp) ∨ rowBlk v4 = some wa.heap.size) →
             w4.heap[g]? = some (.cells #[vU, vS, vR, .slice Ap np cp] 145) ∧ NP n g vU vS vR w3 (w4.setCell ⟨g, 3, none⟩ v4) (i + 1) v4 (fun a => if a = i then wr.heap.size else rb a) := by
           intro v4 w4 h1 h2 h3
           rw [hwa] at h2 h3
           exact NP.step H8.out HN.out HP.out HZ.out h1 h2 h3
         have Hra := Lib.hid hrowa
         have Hrda := Lib.hid hrda
         have Hone := Lib.hid hone
         have Hlen := Lib.hid hlen
         have Hby := Lib.hid hby
         have K4 := Lib.hid k4
         have Hwa := Lib.hid hwa
         clear hP hrowa hrda hone hll hlen hby k4 fa hlp hwa hlt
         as_aux_lemma =>
          go_wp2_with fail
          obtain rfl := Hwa.out
          go_region_law (refine step_append_row (((wr.alloc (.cells Z 149)).alloc (.cells #[.slice (some ⟨wr.heap.size, 0, none⟩) n n] 146)).drew) rfl (.tmp 39) (.tmp 42) 143 146 rfl (.slice none 0 0) 1 24 Try.underlying143 info146 rfl (by decide) (.slice Ap np cp) ((List.range i).flatMap fun a => [Value.slice (some ⟨rb a, 0, none⟩) n n]) rfl Hra.out (some ⟨wr.heap.size + 1, 0, none⟩) 1 1 [Value.slice (some ⟨wr.heap.size, 0, none⟩) n n] rfl rfl Hrda.out Hone.out Hlen.out Hby.out ?_
                         intro v4 w4 hr4 hg4 hb4
                         obtain ⟨A4, n4, cap4, rfl, hn4⟩ := hr4.form
                         obtain ⟨b4, hNP⟩ := K4.out _ w4 hr4 hg4 hb4
                         obtain ⟨_, _, _, q3, qf⟩ := four_cells b4
                         have HNP := Lib.hid hNP
                         clear hr4 hg4 hb4 hn4 b4 hNP)
          all_goals (
            go_wp2_with fail
            go_roundw
            case rel => exact ⟨i + 1, _, _, by omega, by go_num, HNP.out⟩
            case measure => simp [intOf]; omega)
       · have hltI : ¬ (i : Int) < n := by omega
         have hin : i = n := by omega
         have hb0 := hP.box
         have hU0 : Row wr 1 vU (List.replicate n (.int .i64 0)) := HN.out.un.kept (fun k hk => hP.fr.block k (by have := HN.out.bl k (.inl hk); have := HN.out.sz; omega) (by have := HN.out.bl k (.inl hk); omega))
         obtain ⟨Au, nu', cu, rfl, hlu⟩ := hU0.form
         rw [List.length_replicate, Nat.mul_one] at hlu
         obtain rfl : nu' = n := hlu.symm
         obtain ⟨gu, ou, rfl, hbu, hcu⟩ := hU0.at_ (i := 0) (by have := Hh1.out; omega)
         have hc0 := hcu 0 (by decide)
         simp only [Nat.zero_mul, Nat.add_zero] at hc0
         rw [List.getElem?_replicate, if_pos (by have := Hh1.out; omega)] at hc0
         have huf := fun o => hU0.free hbu o
         have hnI : (0 : Int) < nu' := by have := Hh1.out; omega
         rw [hin] at HP
         have Hbu := Lib.hid hbu
         clear hP hlp hb0 hU0 hlu hbu hcu hin hlt
         as_aux_lemma =>
          go_wp2_with fail
          go_ret2
          have hfin := new_end Hh1.out HN.out HP.out Hbu.out (u := u)
          exact ⟨g, rfl, hfin.1, hfin.2⟩)
end Go.Proofs.Ytdjaofkbgkifkaa

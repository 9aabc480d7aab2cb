/- Package escrow: New. -/
import Derived.Test.YtdjaofkbgkifkaaE19
set_option linter.unusedVariables false
set_option linter.unusedSimpArgs false
namespace Go.Proofs.Ytdjaofkbgkifkaa
open Go.RowKit

def rowP (n a : Nat) : List (Int × Int) := ((List.range n).filter fun b : Nat => !(a == b)).map fun b : Nat => (((a : Nat) : Int), ((b : Nat) : Int))
def pre (n i j : Nat) : List (Int × Int) := (List.range i).flatMap (rowP n) ++ ((List.range j).filter fun b : Nat => !(i == b)).map fun b : Nat => (((i : Nat) : Int), ((b : Nat) : Int))
theorem pre_skip (n i : Nat) : pre n i (i + 1) = pre n i i := by
  unfold pre
  rw [List.range_succ, List.filter_append]
  simp
theorem pre_step (n i j : Nat) (h : j ≠ i) : pre n i (j + 1) = pre n i j ++ [((i : Int), (j : Int))] := by
  unfold pre
  have : ([j].filter fun b : Nat => !(i == b)) = [j] := by simp [Ne.symm h]
  rw [List.range_succ, List.filter_append, this, List.map_append, ← List.append_assoc]
  rfl
theorem pre_next (n i : Nat) : pre n i n = pre n (i + 1) 0 := by
  unfold pre
  rw [List.range_succ, List.flatMap_append]
  simp [rowP]
theorem pre_end (n : Nat) : pre n n 0 = pairsOf n := by
  unfold pre pairsOf
  simp only [List.range_zero, List.filter_nil, List.map_nil, List.append_nil]
  rfl
theorem pre_new (n i j : Nat) : ((i : Int), (j : Int)) ∉ pre n i j := by
  unfold pre
  intro h
  rcases List.mem_append.1 h with h | h
  · obtain ⟨a, ha, h⟩ := List.mem_flatMap.1 h
    obtain ⟨b, hb, h⟩ := List.mem_map.1 h
    have := List.mem_range.1 ha
    simp only [Prod.mk.injEq] at h
    omega
  · obtain ⟨b, hb, h⟩ := List.mem_map.1 h
    have := List.mem_range.1 (List.mem_filter.1 hb).1
    simp only [Prod.mk.injEq] at h
    omega
theorem enew_bad (n u : Int) (w : World) (h : n < 1 ∨ 8 < n ∨ u < 0 ∨ 1000000000 < u) :
    Calls Try.prog 18 #[.int .i64 n, .int .i64 u] w fun e w' => e = .returned (.tuple #[.pointer none, .int .i64 1]) ∧ w' = w := by
  by_cases h1 : n < 1
  · clear h
    go_enter Try.func18, Try.ntmps18
    go_wp2
    go_ret2
    exact ⟨rfl, rfl⟩
  · by_cases h2 : 8 < n
    · have h1' : 1 ≤ n := by omega
      clear h h1
      go_enter Try.func18, Try.ntmps18
      go_wp2
      go_ret2
      exact ⟨rfl, rfl⟩
    · by_cases h3 : u < 0
      · have h1' : 1 ≤ n := by omega
        have h2' : n ≤ 8 := by omega
        clear h h1 h2
        go_enter Try.func18, Try.ntmps18
        go_wp2
        go_ret2
        exact ⟨rfl, rfl⟩
      · have h1' : 1 ≤ n := by omega
        have h2' : n ≤ 8 := by omega
        have h3' : 0 ≤ u := by omega
        have h4 : 1000000000 < u := by omega
        clear h h1 h2 h3
        go_enter Try.func18, Try.ntmps18
        go_wp2
        go_ret2
        exact ⟨rfl, rfl⟩
theorem info103 : (Try.prog.info? 103).map (fun i => (i.zero, i.size, i.bytes)) = some (some (.agg #[.int .i64 0, .int .i64 0, .bool false]), 3, 24) := by kernel_rfl
theorem made_accs (n : Nat) (h : n ≤ 8) : (madeCells #[.int .i64 0, .int .i64 0, .bool false] (n * 3)).toList = (List.replicate n (⟨0, 0, false⟩ : Acc)).flatMap Acc.cells := by
  have e : (madeCells #[.int .i64 0, .int .i64 0, .bool false] (n * 3)).toList = (List.range (n * 3)).map (fun i => (#[.int .i64 0, .int .i64 0, .bool false] : Array Value)[i % 3]!) := by simp [madeCells]
  rw [e]
  have : n = 0 ∨ n = 1 ∨ n = 2 ∨ n = 3 ∨ n = 4 ∨ n = 5 ∨ n = 6 ∨ n = 7 ∨ n = 8 := by omega
  rcases this with rfl | rfl | rfl | rfl | rfl | rfl | rfl | rfl | rfl <;> rfl
theorem run_make_accs (w : World) (n : Nat) (h : n ≤ 8) : ∃ X, (Instr.makeSlice 98 (.int .i64 n) (.int .i64 n)).run Try.prog w = .ok (.slice (some ⟨w.heap.size, 0, none⟩) n n) (w.alloc (.cells X 103)) ∧ X.toList = (List.replicate n (⟨0, 0, false⟩ : Acc)).flatMap Acc.cells := by
  obtain ⟨i, hi, hh⟩ := Option.map_eq_some_iff.1 info103
  obtain ⟨h1, h2, h3⟩ : i.zero = some (.agg #[.int .i64 0, .int .i64 0, .bool false]) ∧ i.size = 3 ∧ i.bytes = 24 := by simpa using hh
  have hb : (i.bytes : Int) * (n : Int) ≤ 281474976710656 := by rw [h3]; omega
  have hr := run_make (P := Try.prog) w 98 103 i _ Try.underlying98 hi h1 .i64 .i64 n n (by omega) (Int.le_refl _) hb (by omega)
  simp only [Int.toNat_natCast, h2, Value.cells] at hr
  exact ⟨_, hr, made_accs n h⟩
set_option maxHeartbeats 4000000 in
set_option maxRecDepth 100000 in
theorem enew_ok (n : Nat) (u : Int) (w : World) (h1 : 1 ≤ n) (h8 : n ≤ 8) (hu : 0 ≤ u) (hu2 : u ≤ 1000000000) :
    Calls Try.prog 18 #[.int .i64 n, .int .i64 u] w fun e w' => ∃ g, e = .returned (.tuple #[.pointer (some ⟨g, 0, none⟩), .int .i64 0]) ∧ EscIs w' (fun k => w.heap.size ≤ k ∧ k < w'.heap.size) g (eNew n u) ∧ Fr None' w w' := by
  have hmm := @run_makeMap Try.prog
  obtain ⟨X, hmk, hX⟩ := run_make_accs w n h8
  have hX0 : X[0]? = some (.int .i64 0) := by
    rw [← Array.getElem?_toList, hX]
    obtain ⟨k, rfl⟩ : ∃ k, n = k + 1 := ⟨n - 1, by omega⟩
    rfl
  have hXs : 0 < X.size := by
    rcases Nat.eq_zero_or_pos X.size with h | h
    · rw [Array.getElem?_eq_none (by omega)] at hX0; cases hX0
    · exact h
  have n1 : ¬ (n : Int) < 1 := by omega
  have n2 : ¬ (8 : Int) < n := by omega
  have n3 : ¬ u < 0 := by omega
  have n4 : ¬ (1000000000 : Int) < u := by omega
  have n5 : (0 : Int) < n := by omega
  have HX := Lib.hid hX
  clear hX hu hu2
  go_enter Try.func18, Try.ntmps18
  go_wp2_with fail
  have f3 : Fr None' w (((w.alloc (Obj.cells (X.setIfInBounds 0 (.int .i64 u)) 103)).alloc (Obj.map #[] 0)).alloc (Obj.cells #[.slice (some ⟨w.heap.size, 0, none⟩) n n, .map (some (w.heap.size + 1))] 101)) := (((Fr.refl _ _).alloc _).alloc _).alloc _
  have hga : (((w.alloc (Obj.cells (X.setIfInBounds 0 (.int .i64 u)) 103)).alloc (Obj.map #[] 0)).alloc (Obj.cells #[.slice (some ⟨w.heap.size, 0, none⟩) n n, .map (some (w.heap.size + 1))] 101)).heap[w.heap.size]? = some (.cells (X.setIfInBounds 0 (.int .i64 u)) 103) := by
    rw [Below.heap_alloc _ _ _ (by simp; omega), Below.heap_alloc _ _ _ (by simp)]; exact heap_alloc_new _ _
  have hmb : (((w.alloc (Obj.cells (X.setIfInBounds 0 (.int .i64 u)) 103)).alloc (Obj.map #[] 0)).alloc (Obj.cells #[.slice (some ⟨w.heap.size, 0, none⟩) n n, .map (some (w.heap.size + 1))] 101)).heap[w.heap.size + 1]? = some (.map #[] 0) := by
    rw [Below.heap_alloc _ _ _ (by simp)]
    have := heap_alloc_new (w.alloc (Obj.cells (X.setIfInBounds 0 (.int .i64 u)) 103)) (Obj.map #[] 0)
    have e : (w.alloc (Obj.cells (X.setIfInBounds 0 (.int .i64 u)) 103)).heap.size = w.heap.size + 1 := by simp
    rw [e] at this; exact this
  have hg : (((w.alloc (Obj.cells (X.setIfInBounds 0 (.int .i64 u)) 103)).alloc (Obj.map #[] 0)).alloc (Obj.cells #[.slice (some ⟨w.heap.size, 0, none⟩) n n, .map (some (w.heap.size + 1))] 101)).heap[w.heap.size + 2]? = some (.cells #[.slice (some ⟨w.heap.size, 0, none⟩) n n, .map (some (w.heap.size + 1))] 101) := by
    have := heap_alloc_new ((w.alloc (Obj.cells (X.setIfInBounds 0 (.int .i64 u)) 103)).alloc (Obj.map #[] 0)) (Obj.cells #[.slice (some ⟨w.heap.size, 0, none⟩) n n, .map (some (w.heap.size + 1))] 101)
    have e : ((w.alloc (Obj.cells (X.setIfInBounds 0 (.int .i64 u)) 103)).alloc (Obj.map #[] 0)).heap.size = w.heap.size + 2 := by simp
    rw [e] at this; exact this
  have hs3 : (((w.alloc (Obj.cells (X.setIfInBounds 0 (.int .i64 u)) 103)).alloc (Obj.map #[] 0)).alloc (Obj.cells #[.slice (some ⟨w.heap.size, 0, none⟩) n n, .map (some (w.heap.size + 1))] 101)).heap.size = w.heap.size + 3 := by simp
  generalize (((w.alloc (Obj.cells (X.setIfInBounds 0 (.int .i64 u)) 103)).alloc (Obj.map #[] 0)).alloc (Obj.cells #[.slice (some ⟨w.heap.size, 0, none⟩) n n, .map (some (w.heap.size + 1))] 101)) = w3 at *
  have hN0 : NL w3 (w.heap.size + 3) (w.heap.size + 1) (pre n 0 0) [] 0 := ⟨hmb, WOK.nil, rfl, List.nodup_nil, (by intro e he; cases he), List.nodup_nil⟩
  have HN0 := Lib.hid hN0
  have H3 := Lib.hid f3
  have HGA := Lib.hid hga
  have HG := Lib.hid hg
  have HS3 := Lib.hid hs3
  clear hN0 f3 hga hg hmb hs3 hmk hX0 hXs n5 hmm
  generalize hB : w.heap.size = B at *
  have HB := Lib.hid hB
  clear hB
  go_loopw [36] (fun iv wr => ∃ i : Nat, i ≤ n ∧ iv = .int .i64 i ∧ (∃ L lk, NL wr (B + 3) (B + 1) (pre n i 0) L lk) ∧ Fr (fun k => k = B + 1) w3 wr) (fun iv _ => n - (intOf iv).toNat)
  case atStart => exact ⟨0, Nat.zero_le _, rfl, ⟨[], 0, HN0.out⟩, Fr.refl _ _⟩
  case round =>
    obtain ⟨i, hi, rfl, hN, hf⟩ := hrel
    have HN := Lib.hid hN
    have Hf := Lib.hid hf
    clear hN hf
    by_cases hlt : i < n
    · have hltI : (i : Int) < n := by omega
      go_wp2_with fail
      go_loopw [40] (fun jv wr' => ∃ j : Nat, j ≤ n ∧ jv = .int .i64 j ∧ (∃ L lk, NL wr' (B + 3) (B + 1) (pre n i j) L lk) ∧ Fr (fun k => k = B + 1) w3 wr') (fun jv _ => n - (intOf jv).toNat)
      case atStart => exact ⟨0, Nat.zero_le _, rfl, HN.out, Hf.out⟩
      case round =>
        obtain ⟨j, hj, rfl, ⟨L, lk, hN⟩, hf⟩ := hrel
        have HN2 := Lib.hid hN
        have Hf2 := Lib.hid hf
        by_cases hjl : j < n
        · have hjI : (j : Int) < n := by omega
          by_cases hij : j = i
          · subst hij
            clear hN hf
            go_wp2_with fail
            go_roundw
            case rel => exact ⟨j + 1, hjl, by go_num, ⟨L, lk, by rw [pre_skip]; exact HN2.out⟩, Hf2.out⟩
            case measure => simp [intOf]; omega
          · have hne : ¬ (i : Int) = j := by omega
            have hne2 : ((i : Int) != (j : Int)) = true := by simp; omega
            obtain ⟨o0, o1, of⟩ := two_cells (hf.heap HG.out (by omega))
            have hsz := hf.size
            rw [HS3.out] at hsz
            obtain ⟨wa, hwa⟩ : ∃ wa, wa = wr.alloc (.cells #[.slice none 0 0, .int .i64 0, .int .i64 0, .slice none 0 0] 109) := ⟨_, rfl⟩
            have hma : wa.heap[B + 1]? = some (.map (went L) lk) := by rw [hwa, Below.heap_alloc _ _ _ (by omega)]; exact hN.map
            have hup := wayKey.run_update 99 104 Try.underlying99 (B + 1) L lk i j (.pointer (some ⟨wr.heap.size, 0, none⟩)) wa hma
            obtain ⟨wb, hwb⟩ : ∃ wb, wb = World.setObj wa (B + 1) (.map (went (wput i j (.pointer (some ⟨wr.heap.size, 0, none⟩)) lk L)) (if whas i j L = true then lk else lk + 1)) := ⟨_, rfl⟩
            rw [← hwb] at hup
            simp only [wkey] at hup
            have HNb := Lib.hid (hN.step (by omega) hsz (pre_new n i j) hwa hwb)
            have Hfb := Lib.hid (show Fr (fun k => k = B + 1) w3 wb by rw [hwb, hwa]; exact (hf.alloc _).setObj (.inl rfl) _)
            have hb2 := build110 i j
            have Hwb := Lib.hid hwb
            clear hN hf hma hwb
            subst hwa
            go_wp2_with fail
            go_roundw
            case rel => exact ⟨j + 1, hjl, by go_num, ⟨_, _, by rw [pre_step n i j hij]; exact HNb.out⟩, Hfb.out⟩
            case measure => simp [intOf]; omega
        · have hjn : j = n := by omega
          subst hjn
          clear hN hf
          go_wp2_with fail
          go_roundw
          case rel => exact ⟨i + 1, hlt, by go_num, ⟨L, lk, by rw [← pre_next]; exact HN2.out⟩, Hf2.out⟩
          case measure => simp [intOf]; omega
    · have hin : i = n := by omega
      subst hin
      go_wp2_with fail
      obtain ⟨L, lk, hN⟩ := HN.out
      rw [pre_end] at hN
      have hsz := Hf.out.size
      rw [HS3.out] at hsz
      have hacc : Row wr 3 (.slice (some ⟨B, 0, none⟩) i i) ((eNew i u).acc.flatMap Acc.cells) := by
        have hl : X.toList.length = i * 3 := by rw [HX.out, flat_length _ 3 Acc.cells_len, List.length_replicate]
        have hset : (X.setIfInBounds 0 (.int .i64 u)).toList = (eNew i u).acc.flatMap Acc.cells := by
          rw [Array.toList_setIfInBounds, HX.out]
          exact flat_set Acc.cells 3 Acc.cells_len _ 0 0 ⟨0, 0, false⟩ ⟨u, 0, false⟩ _ (by rw [List.getElem?_replicate, if_pos (by omega)]) (by decide) rfl
        refine ⟨_, _, _, rfl, by rw [flat_length _ 3 Acc.cells_len, eNew_len], Nat.le_refl _, by simp [maxLen]; omega, .inr ⟨B, 0, _, _, rfl, Hf.out.heap HGA.out (by omega), ?_, ?_⟩⟩
        · rw [Array.size_setIfInBounds, ← Array.length_toList, hl]; omega
        · rw [hset, List.drop_zero, List.take_of_length_le (by rw [flat_length _ 3 Acc.cells_len, eNew_len]; exact Nat.le_refl _)]
      have hE := hN.esc (g := B + 2) (ga := B) (u := u) (by omega) (by omega) (by omega) (by omega) (by omega) (by omega) (Hf.out.heap HG.out (by omega)) hacc
      have hB := HB.out
      refine bodyPost_ret (results_tmp2 rfl _ _ _) rfl ⟨B + 2, rfl, hE.mono (fun k hk => ?_), ?_⟩
      · rcases hk with h | h | h | h <;> omega
      · exact H3.out.trans Hf.out (fun k hk e => by omega)
end Go.Proofs.Ytdjaofkbgkifkaa

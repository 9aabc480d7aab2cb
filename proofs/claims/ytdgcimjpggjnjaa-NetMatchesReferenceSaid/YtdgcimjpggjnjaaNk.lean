/- Package net: New, knows. -/
import Derived.Test.YtdgcimjpggjnjaaWay
import Derived.Test.YtdgcimjpggjnjaaRow
import Derived.Test.YtdgcimjpggjnjaaChecked
import Derived.WalkSpells
import Derived.Deep.QuietTactic
import Derived.BigQuiet
import Derived.Lib.Hide
set_option linter.unusedVariables false
set_option linter.unusedSimpArgs false
namespace Go.Proofs.Ytdgcimjpggjnjaa
open Go.RowKit

theorem new_bad (n : Int) (w : World) (h : n < 1 ∨ 8 < n) :
    Calls Try.prog 10 #[.int .i64 n] w fun e w' => e = .returned (.tuple #[.pointer none, .int .i64 1]) ∧ w = w' := by
  by_cases h1 : n < 1
  · go_enter Try.func10, Try.ntmps10
    go_wp2
    go_ret2
    exact ⟨rfl, rfl⟩
  · have h2 : 8 < n := by omega
    have h1' : 1 ≤ n := by omega
    clear h h1
    go_enter Try.func10, Try.ntmps10
    go_wp2
    go_ret2
    exact ⟨rfl, rfl⟩

theorem new_ok (n : Int) (w : World) (h1 : 1 ≤ n) (h2 : n ≤ 8) :
    Calls Try.prog 10 #[.int .i64 n] w fun e w' => e = .returned (.tuple #[.pointer (some ⟨w.heap.size + 2, 0, none⟩), .int .i64 0]) ∧ 
      ((w.alloc (.map #[] 0)).alloc (.map #[] 0)).alloc (.cells #[.int .i64 n, .map (some w.heap.size), .map (some (w.heap.size + 1))] 56) = w' := by
  have hmm := @run_makeMap Try.prog
  go_enter Try.func10, Try.ntmps10
  go_wp2
  go_ret2
  exact ⟨rfl, rfl⟩

/-- k is no node. -/
def badB (N k : Int) : Bool := decide (k < 0) || decide (N ≤ k)
theorem isbad (N k : Int) (bx g : Nat) (w : World) (hb : w.cell? ⟨bx, 0, none⟩ = some (.pointer (some ⟨g, 0, none⟩))) (hg : w.cell? ⟨g, 0, none⟩ = some (.int .i64 N)) :
    Calls Try.prog 33 #[.int .i64 k, .pointer (some ⟨bx, 0, none⟩)] w fun e w' => e = .returned (.bool (badB N k)) ∧ w = w' := by
  by_cases h1 : k < 0
  · have hr : badB N k = true := by simp [badB, h1]
    rw [hr]
    go_enter Try.func33, Try.ntmps33
    go_wp2
    go_ret
    exact ⟨rfl, rfl⟩
  · have h0 : 0 ≤ k := by omega
    by_cases h2 : N ≤ k
    · have hr : badB N k = true := by simp [badB, h2]
      rw [hr]
      clear h1
      go_enter Try.func33, Try.ntmps33
      go_wp2
      go_ret
      exact ⟨by simp [h2], rfl⟩
    · have hr : badB N k = false := by simp [badB]; omega
      rw [hr]
      have h3 : k < N := by omega
      clear h1 h2
      go_enter Try.func33, Try.ntmps33
      go_wp2
      go_ret
      exact ⟨by simp; omega, rfl⟩

/-- Where the first bad number stands. -/
def badAt (N : Int) (a b : Int) : Int := if badB N a then 0 else if badB N b then 1 else -1
theorem firstbad (N a b : Int) (bx wb g : Nat) (w : World) (hb : w.cell? ⟨bx, 0, none⟩ = some (.pointer (some ⟨g, 0, none⟩))) (hg : w.cell? ⟨g, 0, none⟩ = some (.int .i64 N))
    (c0 : w.cell? ⟨wb, 0, none⟩ = some (.int .i64 a)) (c1 : w.cell? ⟨wb, 1, none⟩ = some (.int .i64 b)) :
    Calls Try.prog 35 #[.slice (some ⟨wb, 0, none⟩) 2 2, .func (.func 33) #[] #[.pointer (some ⟨bx, 0, none⟩)]] w fun e w' => e = .returned (.int .i64 (badAt N a b)) ∧ w = w' := by
  by_cases ha : badB N a = true
  · have hr : badAt N a b = 0 := by simp [badAt, ha]
    rw [hr]
    have hc := fun w hb hg => isbad N a bx g w hb hg
    rw [ha] at hc
    have Hc := Lib.hid hc
    clear hc ha hr
    go_enter Try.func35, Try.ntmps35
    go_wp2_with fail
    refine wp_loop_rounds 3 ?_
    rw [rounds_succ]
    go_wp2_with fail
    refine (Hc.out w hb hg).mono ?_
    rintro e w' ⟨rfl, rfl⟩
    go_wp2_with fail
    go_ret
    exact ⟨rfl, rfl⟩
  · have ha' : badB N a = false := by simpa using ha
    have hca := fun w hb hg => isbad N a bx g w hb hg
    rw [ha'] at hca
    have Ha := Lib.hid hca
    clear hca ha
    by_cases hb' : badB N b = true
    · have hr : badAt N a b = 1 := by simp [badAt, ha', hb']
      rw [hr]
      have hcb := fun w hb hg => isbad N b bx g w hb hg
      rw [hb'] at hcb
      have Hb := Lib.hid hcb
      clear hcb hb' ha' hr
      go_enter Try.func35, Try.ntmps35
      go_wp2_with fail
      refine wp_loop_rounds 3 ?_
      rw [rounds_succ]
      go_wp2_with fail
      refine (Ha.out w hb hg).mono ?_
      rintro e w' ⟨rfl, rfl⟩
      go_wp2_with fail
      rw [rounds_succ]
      go_wp2_with fail
      refine (Hb.out w hb hg).mono ?_
      rintro e w' ⟨rfl, rfl⟩
      go_wp2_with fail
      go_ret
      exact ⟨rfl, rfl⟩
    · have hb'' : badB N b = false := by simpa using hb'
      have hr : badAt N a b = -1 := by simp [badAt, ha', hb'']
      rw [hr]
      have hcb := fun w hb hg => isbad N b bx g w hb hg
      rw [hb''] at hcb
      have Hb := Lib.hid hcb
      clear hcb hb' hb'' ha' hr
      go_enter Try.func35, Try.ntmps35
      go_wp2_with fail
      refine wp_loop_rounds 3 ?_
      rw [rounds_succ]
      go_wp2_with fail
      refine (Ha.out w hb hg).mono ?_
      rintro e w' ⟨rfl, rfl⟩
      go_wp2_with fail
      rw [rounds_succ]
      go_wp2_with fail
      refine (Hb.out w hb hg).mono ?_
      rintro e w' ⟨rfl, rfl⟩
      go_wp2_with fail
      rw [rounds_succ]
      go_wp2_with fail
      go_ret
      exact ⟨rfl, rfl⟩

/-- Two different nodes. -/
def knowsB (N a b : Int) : Bool := decide (a ≠ b) && (!badB N a && !badB N b)
theorem wayKey : WayKey Try.prog 58 3 := ⟨by kernel_rfl, by kernel_rfl, by kernel_rfl⟩

theorem run_eql_way (w : World) (a b c e : Int) : (binOp .eql 58 (.agg #[.int .i64 a, .int .i64 b]) (.agg #[.int .i64 c, .int .i64 e])).run Try.prog w = .ok (.bool (a == c && b == e)) w := by
  have h := wayKey.run_equal w 9998 a b c e
  simp only [wkey] at h
  simp only [binOp]
  simp [Op.equal, Op.maxDepth, h]
theorem knowsB_same (N a : Int) : knowsB N a a = false := by simp [knowsB]
theorem knowsB_ne {N a b : Int} (h : a ≠ b) : knowsB N a b = !(decide (0 ≤ badAt N a b)) := by
  unfold knowsB badAt
  cases badB N a <;> cases badB N b <;> simp [h]

theorem contains_bad (N a b : Int) (bx wb g : Nat) (w : World) (hb : w.cell? ⟨bx, 0, none⟩ = some (.pointer (some ⟨g, 0, none⟩))) (hg : w.cell? ⟨g, 0, none⟩ = some (.int .i64 N))
    (c0 : w.cell? ⟨wb, 0, none⟩ = some (.int .i64 a)) (c1 : w.cell? ⟨wb, 1, none⟩ = some (.int .i64 b)) :
    Calls Try.prog 32 #[.slice (some ⟨wb, 0, none⟩) 2 2, .func (.func 33) #[] #[.pointer (some ⟨bx, 0, none⟩)]] w fun e w' => e = .returned (.bool (decide (0 ≤ badAt N a b))) ∧ w = w' := by
  have H := Lib.hid (firstbad N a b bx wb g w hb hg c0 c1)
  go_enter Try.func32, Try.ntmps32
  go_wp2_with fail
  refine H.out.mono ?_
  rintro e w' ⟨rfl, rfl⟩
  go_wp2_with fail
  go_ret
  exact ⟨rfl, rfl⟩

/-- What knows leaves: two boxes. -/
theorem knows_nil (a b : Int) (w : World) : Calls Try.prog 22 #[.pointer none, wkey a b] w fun e w' => e = .returned (.bool false) ∧
    (w.alloc (.cells #[.pointer none] 25)).alloc (.cells #[.int .i64 a, .int .i64 b] 58) = w' := by
  go_enter Try.func22, Try.ntmps22
  unfold wkey
  go_wp2_with fail
  go_ret
  exact ⟨rfl, rfl⟩
theorem knows_any (N a b : Int) (g : Nat) (w : World) (hg : w.cell? ⟨g, 0, none⟩ = some (.int .i64 N)) : Calls Try.prog 22 #[.pointer (some ⟨g, 0, none⟩), wkey a b] w fun e w' => e = .returned (.bool (knowsB N a b)) ∧
    (w.alloc (.cells #[.pointer (some ⟨g, 0, none⟩)] 25)).alloc (.cells #[.int .i64 a, .int .i64 b] 58) = w' := by
  have hlt := World.block_lt_of_cell? w _ hg
  simp only at hlt
  by_cases hab : a = b
  · subst hab
    rw [knowsB_same]
    have heq := fun w : World => run_eql_way w a a a a
    go_enter Try.func22, Try.ntmps22
    unfold wkey
    go_wp2_with fail
    go_ret
    exact ⟨rfl, rfl⟩
  · rw [knowsB_ne hab]
    have hne : (a == b) = false := by simpa using hab
    have heq := fun w : World => run_eql_way w a b b a
    go_enter Try.func22, Try.ntmps22
    unfold wkey
    go_wp2_with fail
    refine (contains_bad N a b _ _ g _ ?_ ?_ ?_ ?_).mono ?_
    · go_simp
    · go_simp
    · go_simp
    · go_simp
    rintro e w' ⟨rfl, rfl⟩
    go_wp2_with fail
    go_ret
    exact ⟨rfl, rfl⟩
end Go.Proofs.Ytdgcimjpggjnjaa

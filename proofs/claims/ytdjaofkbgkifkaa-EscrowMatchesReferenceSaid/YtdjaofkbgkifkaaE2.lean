/- Package escrow: line, at, Have. -/
import Derived.Test.YtdjaofkbgkifkaaE1
import Derived.Test.YtdjaofkbgkifkaaChecked
import Derived.WalkSpells
import Derived.Deep.QuietTactic
import Derived.BigQuiet
import Derived.Lib.Hide
set_option linter.unusedVariables false
set_option linter.unusedSimpArgs false
namespace Go.Proofs.Ytdjaofkbgkifkaa
open Go.RowKit

theorem wayKey : WayKey Try.prog 110 3 := ⟨by kernel_rfl, by kernel_rfl, by kernel_rfl⟩
theorem zero104 (w : World) : (zeroValue 104).run Try.prog w = .ok (.pointer none) w := by kernel_rfl
theorem build110 (a b : Int) (w : World) : (Instr.build 110 #[(0, .int .i64 a), (1, .int .i64 b)]).run Try.prog w = .ok (wkey a b) w := by kernel_rfl
theorem two_cells {w : World} {g : Nat} {u0 u1 : Value} {T : TypeId} (h : w.heap[g]? = some (.cells #[u0, u1] T)) :
    w.cell? ⟨g, 0, none⟩ = some u0 ∧ w.cell? ⟨g, 1, none⟩ = some u1 ∧ (∀ o, w.frozen? ⟨g, o, none⟩ = false) := by
  refine ⟨?_, ?_, fun o => frozen_of_row w g o _ T h⟩
  · rw [cell_of_row w g _ _ T (0, 0) h]; rfl
  · rw [cell_of_row w g _ _ T (0, 0) h]; rfl
theorem EscAt.cells {w : World} {ρ : Nat → Role} {g : Nat} {S : ES} {vA : Value} {mb : Nat} {L : List WE} {lk : Nat} {lb : Int → Int → Nat} {vT vM : Int → Int → Value} {mz : Int → Int → List (Value × EM)}
    (h : EscAt w ρ g S vA mb L lk lb vT vM mz) : w.cell? ⟨g, 0, none⟩ = some vA ∧ w.cell? ⟨g, 1, none⟩ = some (.map (some mb)) := by
  obtain ⟨h1, h2, _⟩ := two_cells h.obj
  exact ⟨h1, h2⟩
theorem line_nil (a b : Int) (w : World) : Calls Try.prog 71 #[.pointer none, .int .i64 a, .int .i64 b] w fun e w' => e = .returned (.pointer none) ∧ w' = w := by
  go_enter Try.func71, Try.ntmps71
  go_wp2_with fail
  go_ret
  exact ⟨rfl, rfl⟩
theorem line_ok {w : World} {ρ : Nat → Role} {g : Nat} {S : ES} {vA : Value} {mb : Nat} {L : List WE} {lk : Nat} {lb : Int → Int → Nat} {vT vM : Int → Int → Value} {mz : Int → Int → List (Value × EM)}
    (h : EscAt w ρ g S vA mb L lk lb vT vM mz) (a b : Int) : Calls Try.prog 71 #[.pointer (some ⟨g, 0, none⟩), .int .i64 a, .int .i64 b] w fun e w' => e = .returned (if pairB S.acc.length a b then .pointer (some ⟨lb a b, 0, none⟩) else .pointer none) ∧ w' = w := by
  obtain ⟨c0, c1⟩ := h.cells
  have hl := wayKey.run_lookup 99 104 Try.underlying99 (.pointer none) zero104 mb L lk a b w h.map
  rw [← h.val a b]
  have hb := build110 a b
  simp only [wkey] at hl hb
  obtain ⟨v, hv⟩ : ∃ v, v = wval a b (.pointer none) L := ⟨_, rfl⟩
  rw [← hv] at hl ⊢
  clear h hv
  go_enter Try.func71, Try.ntmps71
  go_wp2_with fail
  go_ret
  exact ⟨rfl, rfl⟩
theorem at_nil (i : Int) (w : World) : Calls Try.prog 75 #[.pointer none, .int .i64 i] w fun e w' => e = .returned (.pointer none) ∧ w' = w := by
  go_enter Try.func75, Try.ntmps75
  go_wp2_with fail
  go_ret
  exact ⟨rfl, rfl⟩
/-- There is such a replica. -/
def isB (n : Nat) (i : Int) : Bool := decide (0 ≤ i ∧ i < n)
theorem isB_get {l : List Acc} {i : Int} (h : isB l.length i = true) : ∃ (r : Nat) (x : Acc), i = r ∧ l[r]? = some x := by
  simp only [isB, decide_eq_true_eq] at h
  obtain ⟨r, rfl⟩ := Int.eq_ofNat_of_zero_le h.1
  exact ⟨r, l[r]'(by omega), rfl, List.getElem?_eq_getElem (by omega)⟩
theorem acc_form {w : World} {vA : Value} {l : List Acc} (h : Row w 3 vA (l.flatMap Acc.cells)) : ∃ A cap, vA = .slice A l.length cap := by
  obtain ⟨A, n, cap, rfl, hn⟩ := h.form
  rw [flat_length _ 3 Acc.cells_len] at hn
  obtain rfl : n = l.length := by omega
  exact ⟨A, cap, rfl⟩
theorem acc_get {w : World} {vA : Value} {l : List Acc} (h : Row w 3 vA (l.flatMap Acc.cells)) (hl : l.length ≤ 1000) {r : Nat} {x : Acc} (hx : l[r]? = some x) : ∃ g off cap, vA = .slice (some ⟨g, off, none⟩) l.length cap ∧ rowBlk vA = some g ∧
    w.cell? ⟨g, off + r * 3, none⟩ = some (.int .i64 x.u) ∧ w.cell? ⟨g, off + r * 3 + 1, none⟩ = some (.int .i64 x.s) ∧ w.cell? ⟨g, off + r * 3 + 2, none⟩ = some (.bool x.r) ∧ (∀ o, w.frozen? ⟨g, o, none⟩ = false) := by
  have hk : r < l.length := (List.getElem?_eq_some_iff.1 hx).1
  have h0 := h
  obtain ⟨A, n, cap, rfl, h1, h2, h3, h4⟩ := h
  rw [flat_length _ 3 Acc.cells_len] at h1
  obtain rfl : n = l.length := by omega
  rcases h4 with rfl | ⟨g, off, cur, T, rfl, h5, h6, h7⟩
  · omega
  · have hb : rowBlk (.slice (some ⟨g, off, none⟩) l.length cap) = some g := by simp [rowBlk]; omega
    obtain ⟨_, _, _, he, _, _, hc⟩ := h0.rdL Acc.cells Acc.cells_len (by decide) (by omega)
    cases he
    obtain ⟨g', off', he, hc⟩ := hc (by omega)
    cases he
    exact ⟨g, off, cap, rfl, hb, hc r x hx 0 _ rfl, hc r x hx 1 _ rfl, hc r x hx 2 _ rfl, fun o => h0.free hb o⟩
theorem at_no {w : World} {g : Nat} {A : Option Addr} {n cap : Nat} (c0 : w.cell? ⟨g, 0, none⟩ = some (.slice A n cap)) (i : Int) (hi : isB n i = false) : Calls Try.prog 75 #[.pointer (some ⟨g, 0, none⟩), .int .i64 i] w fun e w' => e = .returned (.pointer none) ∧ w' = w := by
  by_cases h0 : i < 0
  · clear hi
    go_enter Try.func75, Try.ntmps75
    go_wp2_with fail
    go_ret
    exact ⟨rfl, rfl⟩
  · have h1 : (n : Int) ≤ i := by simp [isB] at hi; omega
    clear hi
    go_enter Try.func75, Try.ntmps75
    go_wp2_with fail
    go_ret
    exact ⟨rfl, rfl⟩
theorem at_yes {w : World} {g ga off : Nat} {n cap : Nat} (c0 : w.cell? ⟨g, 0, none⟩ = some (.slice (some ⟨ga, off, none⟩) n cap)) (r : Nat) (hi : r < n) : Calls Try.prog 75 #[.pointer (some ⟨g, 0, none⟩), .int .i64 r] w fun e w' => e = .returned (.pointer (some ⟨ga, off + r * 3, none⟩)) ∧ w' = w := by
  have h0 : ¬ (r : Int) < 0 := by omega
  have h1 : ¬ (n : Int) ≤ r := by omega
  have h2 : (r : Int) < n := by omega
  go_enter Try.func75, Try.ntmps75
  go_wp2_with fail
  go_ret
  exact ⟨rfl, rfl⟩
/-- Have. -/
def eHave (S : ES) (i : Int) : Int := if isB S.acc.length i then (match S.acc[i.toNat]? with | some x => x.u | none => 0) else 0
theorem have_nil (i : Int) (w : World) : Calls Try.prog 31 #[.pointer none, .int .i64 i] w fun e w' => e = .returned (.int .i64 0) ∧ w' = w := by
  go_enter Try.func31, Try.ntmps31
  go_wp2_with fail
  refine (at_nil i w).mono ?_
  rintro e w' ⟨rfl, rfl⟩
  go_wp2_with fail
  go_ret
  exact ⟨rfl, rfl⟩
theorem have_ok {w : World} {F : Nat → Prop} {g : Nat} {S : ES} (h : EscIs w F g S) (hn : S.acc.length ≤ 8) (i : Int) : Calls Try.prog 31 #[.pointer (some ⟨g, 0, none⟩), .int .i64 i] w fun e w' => e = .returned (.int .i64 (eHave S i)) ∧ w' = w := by
  obtain ⟨ρ, vA, mb, L, lk, lb, vT, vM, mz, h, _⟩ := h
  obtain ⟨c0, _⟩ := h.cells
  unfold eHave
  cases hi : isB S.acc.length i with
  | false =>
    obtain ⟨A, cap, rfl⟩ := acc_form h.acc
    simp only [Bool.false_eq_true, if_false]
    have H := Lib.hid (at_no c0 i hi)
    clear h hi
    go_enter Try.func31, Try.ntmps31
    go_wp2_with fail
    refine H.out.mono ?_
    rintro e w' ⟨rfl, rfl⟩
    go_wp2_with fail
    go_ret
    exact ⟨rfl, rfl⟩
  | true =>
    obtain ⟨r, x, rfl, hx⟩ := isB_get hi
    obtain ⟨ga, off, cap, rfl, _, u0, u1, u2, _⟩ := acc_get h.acc (by omega) hx
    simp only [if_true, Int.toNat_natCast, hx]
    have H := Lib.hid (at_yes c0 r (List.getElem?_eq_some_iff.1 hx).1)
    clear h hi hx
    go_enter Try.func31, Try.ntmps31
    go_wp2_with fail
    refine H.out.mono ?_
    rintro e w' ⟨rfl, rfl⟩
    go_wp2_with fail
    go_ret
    exact ⟨rfl, rfl⟩
end Go.Proofs.Ytdjaofkbgkifkaa

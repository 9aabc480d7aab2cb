/- Package escrow: change, Spend, Return, Revoke. -/
import Derived.Test.YtdjaofkbgkifkaaEop2
set_option linter.unusedVariables false
set_option linter.unusedSimpArgs false
namespace Go.Proofs.Ytdjaofkbgkifkaa
open Go.RowKit

theorem spend1 (g o : Nat) (r : Bool) (w : World) (h : w.cell? ⟨g, o + 2, none⟩ = some (.bool r)) : Calls Try.prog 62 #[.pointer (some ⟨g, o, none⟩)] w fun e w' => e = .returned (.int .i64 (if r then 22 else 0)) ∧ w' = w := by
  cases r with
  | true =>
    go_enter Try.func62, Try.ntmps62
    go_wp2_with fail
    go_ret
    exact ⟨rfl, rfl⟩
  | false =>
    go_enter Try.func62, Try.ntmps62
    go_wp2_with fail
    go_ret
    exact ⟨rfl, rfl⟩
theorem return1 (g o : Nat) (w : World) : Calls Try.prog 70 #[.pointer (some ⟨g, o, none⟩)] w fun e w' => e = .returned (.int .i64 0) ∧ w' = w := by
  go_enter Try.func70, Try.ntmps70
  go_wp2_with fail
  go_ret
  exact ⟨rfl, rfl⟩
theorem change_nil (i k : Int) (f : Value) (w : World) : Calls Try.prog 61 #[.pointer none, .int .i64 i, .int .i64 k, f] w fun e w' => e = .returned (.int .i64 1) ∧ w' = w := by
  go_enter Try.func61, Try.ntmps61
  go_wp2_with fail
  refine (at_nil i w).mono ?_
  rintro e w' ⟨rfl, rfl⟩
  go_wp2_with fail
  go_ret
  exact ⟨rfl, rfl⟩
theorem change_no {w : World} {g : Nat} {A : Option Addr} {n cap : Nat} (c0 : w.cell? ⟨g, 0, none⟩ = some (.slice A n cap)) (i k : Int) (hi : isB n i = false) (f : Value) : Calls Try.prog 61 #[.pointer (some ⟨g, 0, none⟩), .int .i64 i, .int .i64 k, f] w fun e w' => e = .returned (.int .i64 1) ∧ w' = w := by
  have H := Lib.hid (at_no c0 i hi)
  clear hi
  go_enter Try.func61, Try.ntmps61
  go_wp2_with fail
  refine H.out.mono ?_
  rintro e w' ⟨rfl, rfl⟩
  go_wp2_with fail
  go_ret
  exact ⟨rfl, rfl⟩
theorem w64 {x : Int} (h : -9223372036854775808 ≤ x) (h' : x ≤ 9223372036854775807) : wrap64 x = x := by unfold wrap64; omega
/-- The function value says an error. -/
theorem change_err {w : World} {g ga off : Nat} {n cap : Nat} (c0 : w.cell? ⟨g, 0, none⟩ = some (.slice (some ⟨ga, off, none⟩) n cap)) (r : Nat) (hi : r < n) (k : Int) (e0 : Int) (he : (e0 != 0) = true)
    (hf : Calls Try.prog 62 #[.pointer (some ⟨ga, off + r * 3, none⟩)] w fun e w' => e = .returned (.int .i64 e0) ∧ w' = w) :
    Calls Try.prog 61 #[.pointer (some ⟨g, 0, none⟩), .int .i64 r, .int .i64 k, .func (.func 62) #[] #[]] w fun e w' => e = .returned (.int .i64 e0) ∧ w' = w := by
  have H := Lib.hid (at_yes c0 r hi)
  have Hf := Lib.hid hf
  clear hi hf
  go_enter Try.func61, Try.ntmps61
  go_wp2_with fail
  refine H.out.mono ?_
  rintro e w' ⟨rfl, rfl⟩
  go_wp2_with fail
  refine Hf.out.mono ?_
  rintro e w' ⟨rfl, rfl⟩
  go_wp2_with fail
  go_ret
  exact ⟨rfl, rfl⟩
theorem change_quota62 {w : World} {g ga off : Nat} {n cap : Nat} (c0 : w.cell? ⟨g, 0, none⟩ = some (.slice (some ⟨ga, off, none⟩) n cap)) (r : Nat) (hi : r < n) (k u s : Int)
    (hf : Calls Try.prog 62 #[.pointer (some ⟨ga, off + r * 3, none⟩)] w fun e w' => e = .returned (.int .i64 0) ∧ w' = w)
    (c1 : w.cell? ⟨ga, off + r * 3, none⟩ = some (.int .i64 u)) (c2 : w.cell? ⟨ga, off + r * 3 + 1, none⟩ = some (.int .i64 s)) (hq : wrap64 (u + k) < 0 ∨ wrap64 (s - k) < 0) :
    Calls Try.prog 61 #[.pointer (some ⟨g, 0, none⟩), .int .i64 r, .int .i64 k, .func (.func 62) #[] #[]] w fun e w' => e = .returned (.int .i64 19) ∧ w' = w := by
  have H := Lib.hid (at_yes c0 r hi)
  have Hf := Lib.hid hf
  clear hi hf
  by_cases h1 : wrap64 (u + k) < 0
  · clear hq
    go_enter Try.func61, Try.ntmps61
    go_wp2_with fail
    refine H.out.mono ?_
    rintro e w' ⟨rfl, rfl⟩
    go_wp2_with fail
    refine Hf.out.mono ?_
    rintro e w' ⟨rfl, rfl⟩
    go_wp2_with fail
    go_ret
    exact ⟨rfl, rfl⟩
  · have h2 : wrap64 (s - k) < 0 := by
      rcases hq with h | h
      · exact absurd h h1
      · exact h
    clear hq
    go_enter Try.func61, Try.ntmps61
    go_wp2_with fail
    refine H.out.mono ?_
    rintro e w' ⟨rfl, rfl⟩
    go_wp2_with fail
    refine Hf.out.mono ?_
    rintro e w' ⟨rfl, rfl⟩
    go_wp2_with fail
    go_ret
    exact ⟨rfl, rfl⟩
theorem change_quota70 {w : World} {g ga off : Nat} {n cap : Nat} (c0 : w.cell? ⟨g, 0, none⟩ = some (.slice (some ⟨ga, off, none⟩) n cap)) (r : Nat) (hi : r < n) (k u s : Int)
    (hf : Calls Try.prog 70 #[.pointer (some ⟨ga, off + r * 3, none⟩)] w fun e w' => e = .returned (.int .i64 0) ∧ w' = w)
    (c1 : w.cell? ⟨ga, off + r * 3, none⟩ = some (.int .i64 u)) (c2 : w.cell? ⟨ga, off + r * 3 + 1, none⟩ = some (.int .i64 s)) (hq : wrap64 (u + k) < 0 ∨ wrap64 (s - k) < 0) :
    Calls Try.prog 61 #[.pointer (some ⟨g, 0, none⟩), .int .i64 r, .int .i64 k, .func (.func 70) #[] #[]] w fun e w' => e = .returned (.int .i64 19) ∧ w' = w := by
  have H := Lib.hid (at_yes c0 r hi)
  have Hf := Lib.hid hf
  clear hi hf
  by_cases h1 : wrap64 (u + k) < 0
  · clear hq
    go_enter Try.func61, Try.ntmps61
    go_wp2_with fail
    refine H.out.mono ?_
    rintro e w' ⟨rfl, rfl⟩
    go_wp2_with fail
    refine Hf.out.mono ?_
    rintro e w' ⟨rfl, rfl⟩
    go_wp2_with fail
    go_ret
    exact ⟨rfl, rfl⟩
  · have h2 : wrap64 (s - k) < 0 := by
      rcases hq with h | h
      · exact absurd h h1
      · exact h
    clear hq
    go_enter Try.func61, Try.ntmps61
    go_wp2_with fail
    refine H.out.mono ?_
    rintro e w' ⟨rfl, rfl⟩
    go_wp2_with fail
    refine Hf.out.mono ?_
    rintro e w' ⟨rfl, rfl⟩
    go_wp2_with fail
    go_ret
    exact ⟨rfl, rfl⟩
theorem change_do62 {w : World} {g ga off : Nat} {n cap : Nat} (c0 : w.cell? ⟨g, 0, none⟩ = some (.slice (some ⟨ga, off, none⟩) n cap)) (r : Nat) (hi : r < n) (k u s : Int)
    (hf : Calls Try.prog 62 #[.pointer (some ⟨ga, off + r * 3, none⟩)] w fun e w' => e = .returned (.int .i64 0) ∧ w' = w)
    (c1 : w.cell? ⟨ga, off + r * 3, none⟩ = some (.int .i64 u)) (c2 : w.cell? ⟨ga, off + r * 3 + 1, none⟩ = some (.int .i64 s)) (h1 : 0 ≤ u + k) (h2 : 0 ≤ s - k) (e1 : wrap64 (u + k) = u + k) (e2 : wrap64 (s - k) = s - k)
    (hfr : ∀ o, w.frozen? ⟨ga, o, none⟩ = false) :
    Calls Try.prog 61 #[.pointer (some ⟨g, 0, none⟩), .int .i64 r, .int .i64 k, .func (.func 62) #[] #[]] w fun e w' => e = .returned (.int .i64 0) ∧ w' = ((w.drew.setCell ⟨ga, off + r * 3, none⟩ (.int .i64 (u + k))).setCell ⟨ga, off + r * 3 + 1, none⟩ (.int .i64 (s - k))) := by
  have H := Lib.hid (at_yes c0 r hi)
  have Hf := Lib.hid hf
  have t1 : ¬ u + k < 0 := by omega
  have t2 : ¬ s - k < 0 := by omega
  clear hi hf h1 h2
  go_enter Try.func61, Try.ntmps61
  go_wp2_with fail
  refine H.out.mono ?_
  rintro e w' ⟨rfl, rfl⟩
  go_wp2_with fail
  refine Hf.out.mono ?_
  rintro e w' ⟨rfl, rfl⟩
  go_wp2_with fail
  clear H Hf
  have i1 : IntKind.i64.wrap (u + k) = u + k := by unfold wrap64 at e1; rw [IntKind.wrap_i64]; omega
  have i2 : IntKind.i64.wrap (s - k) = s - k := by unfold wrap64 at e2; rw [IntKind.wrap_i64]; omega
  go_region_law (fail)
  all_goals (
    go_wp2_with fail
    go_ret
    refine ⟨rfl, ?_⟩
    first | rfl | (rw [i1, i2]; rfl))
theorem change_do70 {w : World} {g ga off : Nat} {n cap : Nat} (c0 : w.cell? ⟨g, 0, none⟩ = some (.slice (some ⟨ga, off, none⟩) n cap)) (r : Nat) (hi : r < n) (k u s : Int)
    (hf : Calls Try.prog 70 #[.pointer (some ⟨ga, off + r * 3, none⟩)] w fun e w' => e = .returned (.int .i64 0) ∧ w' = w)
    (c1 : w.cell? ⟨ga, off + r * 3, none⟩ = some (.int .i64 u)) (c2 : w.cell? ⟨ga, off + r * 3 + 1, none⟩ = some (.int .i64 s)) (h1 : 0 ≤ u + k) (h2 : 0 ≤ s - k) (e1 : wrap64 (u + k) = u + k) (e2 : wrap64 (s - k) = s - k)
    (hfr : ∀ o, w.frozen? ⟨ga, o, none⟩ = false) :
    Calls Try.prog 61 #[.pointer (some ⟨g, 0, none⟩), .int .i64 r, .int .i64 k, .func (.func 70) #[] #[]] w fun e w' => e = .returned (.int .i64 0) ∧ w' = ((w.drew.setCell ⟨ga, off + r * 3, none⟩ (.int .i64 (u + k))).setCell ⟨ga, off + r * 3 + 1, none⟩ (.int .i64 (s - k))) := by
  have H := Lib.hid (at_yes c0 r hi)
  have Hf := Lib.hid hf
  have t1 : ¬ u + k < 0 := by omega
  have t2 : ¬ s - k < 0 := by omega
  clear hi hf h1 h2
  go_enter Try.func61, Try.ntmps61
  go_wp2_with fail
  refine H.out.mono ?_
  rintro e w' ⟨rfl, rfl⟩
  go_wp2_with fail
  refine Hf.out.mono ?_
  rintro e w' ⟨rfl, rfl⟩
  go_wp2_with fail
  clear H Hf
  have i1 : IntKind.i64.wrap (u + k) = u + k := by unfold wrap64 at e1; rw [IntKind.wrap_i64]; omega
  have i2 : IntKind.i64.wrap (s - k) = s - k := by unfold wrap64 at e2; rw [IntKind.wrap_i64]; omega
  go_region_law (fail)
  all_goals (
    go_wp2_with fail
    go_ret
    refine ⟨rfl, ?_⟩
    first | rfl | (rw [i1, i2]; rfl))
end Go.Proofs.Ytdjaofkbgkifkaa

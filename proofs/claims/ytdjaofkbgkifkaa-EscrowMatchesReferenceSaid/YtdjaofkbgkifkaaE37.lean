/- The reference of chapter 36: Give. -/
import Derived.Test.YtdjaofkbgkifkaaE36
set_option linter.unusedVariables false
set_option linter.unusedSimpArgs false
namespace Go.Proofs.Ytdjaofkbgkifkaa
open Go.RowKit

theorem pairB_split {n : Nat} {a b : Int} (h : pairB n a b = false) : isB n a = false ∨ (isB n a = true ∧ isB n b = false) ∨ (isB n a = true ∧ isB n b = true ∧ a = b) := by
  simp only [pairB, isB, decide_eq_false_iff_not, decide_eq_true_eq] at h ⊢
  omega
theorem rgive_arg {w : World} {g : Nat} {A : Option Addr} {n cap : Nat} (c0 : w.cell? ⟨g, 0, none⟩ = some (.slice A n cap)) (a b k : Int) (h : pairB n a b = false ∨ k < 1) :
    Calls Try.prog 78 #[.pointer (some ⟨g, 0, none⟩), .int .i64 a, .int .i64 b, .int .i64 k] w fun e w' => e = .returned (.int .i64 1) ∧ w' = w := by
  have Ha := is_at c0 a
  have Hb := is_at c0 b
  cases hp : pairB n a b with
  | false =>
    rcases pairB_split hp with h1 | ⟨h1, h2⟩ | ⟨h1, h2, h3⟩
    · rw [h1] at Ha
      have Ha := Lib.hid Ha
      clear Hb h hp h1
      go_enter Try.func78, Try.ntmps78
      go_wp2_with fail
      refine Ha.out.mono ?_
      rintro e w' ⟨rfl, rfl⟩
      go_wp2_with fail
      go_ret
      exact ⟨rfl, rfl⟩
    · rw [h1] at Ha
      rw [h2] at Hb
      have Ha := Lib.hid Ha
      have Hb := Lib.hid Hb
      clear h hp h1 h2
      go_enter Try.func78, Try.ntmps78
      go_wp2_with fail
      refine Ha.out.mono ?_
      rintro e w' ⟨rfl, rfl⟩
      go_wp2_with fail
      refine Hb.out.mono ?_
      rintro e w' ⟨rfl, rfl⟩
      go_wp2_with fail
      go_ret
      exact ⟨rfl, rfl⟩
    · subst h3
      rw [h1] at Ha
      have Ha := Lib.hid Ha
      clear h hp h1 h2 Hb
      go_enter Try.func78, Try.ntmps78
      go_wp2_with fail
      refine Ha.out.mono ?_
      rintro e w' ⟨rfl, rfl⟩
      go_wp2_with fail
      refine Ha.out.mono ?_
      rintro e w' ⟨rfl, rfl⟩
      go_wp2_with fail
      go_ret
      exact ⟨rfl, rfl⟩
  | true =>
    have hk : k < 1 := by rcases h with h | h; rw [hp] at h; cases h; exact h
    rw [pairB_left hp] at Ha
    rw [pairB_right hp] at Hb
    have hne : ¬ a = b := pairB_ne hp
    have Ha := Lib.hid Ha
    have Hb := Lib.hid Hb
    clear h hp
    go_enter Try.func78, Try.ntmps78
    go_wp2_with fail
    refine Ha.out.mono ?_
    rintro e w' ⟨rfl, rfl⟩
    go_wp2_with fail
    refine Hb.out.mono ?_
    rintro e w' ⟨rfl, rfl⟩
    go_wp2_with fail
    go_ret
    exact ⟨rfl, rfl⟩
/-- A pair's cells. -/
theorem RefAt.pairAt {w : World} {ρ : Nat → RR} {g : Nat} {S : ES} {vU vS vR vP : Value} {vr : Nat → Value} {vT vM : Nat → Nat → Value} {mz : Nat → Nat → List (Value × EM)}
    (h : RefAt w ρ g S vU vS vR vP vr vT vM mz) {a b : Nat} (ha : a < S.acc.length) (hb : b < S.acc.length) :
    ∃ gp op cp gr orr cr A cap AM capM, vP = .slice (some ⟨gp, op, none⟩) S.acc.length cp ∧ rowBlk vP = some gp ∧ w.cell? ⟨gp, op + a, none⟩ = some (.slice (some ⟨gr, orr, none⟩) S.acc.length cr) ∧
      vr a = .slice (some ⟨gr, orr, none⟩) S.acc.length cr ∧ rowBlk (vr a) = some gr ∧ vT a b = .slice A (S.ln a b).all.length cap ∧ vM a b = .slice AM (S.ln a b).ms.length capM ∧
      w.cell? ⟨gr, orr + b * 4, none⟩ = some (.slice A (S.ln a b).all.length cap) ∧ w.cell? ⟨gr, orr + b * 4 + 1, none⟩ = some (.int .i64 ((S.ln a b).rcv : Int)) ∧
      w.cell? ⟨gr, orr + b * 4 + 2, none⟩ = some (.int .i64 ((S.ln a b).conf : Int)) ∧ w.cell? ⟨gr, orr + b * 4 + 3, none⟩ = some (.slice AM (S.ln a b).ms.length capM) ∧ (∀ o, w.frozen? ⟨gr, o, none⟩ = false) := by
  have hx : (List.range S.acc.length)[a]? = some a := by rw [List.getElem?_range ha]
  obtain ⟨gp, op, cp, hvp, hbp, p0, _⟩ := arr_get (f := fun a => [vr a]) (fun _ => rfl) h.out hx rfl
  rw [List.length_range] at hvp
  obtain ⟨gr, orr, cr, hvr, hbr, q0, q1, q2, q3, qf⟩ := pair_get (f := pcells S vT vM a) (fun _ => rfl) (h.row a ha) hb rfl
  obtain ⟨A, cap, hv⟩ := arr_form (f := icell) (fun _ => rfl) (h.tr a b ha hb)
  obtain ⟨AM, nM, capM, hvM, hl⟩ := (h.ms a b ha hb).form
  rw [flat_length _ 4 qcells_len] at hl
  obtain rfl : nM = (S.ln a b).ms.length := by rw [← h.mq a b ha hb, List.length_map]; omega
  rw [hvr] at p0
  rw [hv] at q0
  rw [hvM] at q3
  exact ⟨gp, op, cp, gr, orr, cr, A, cap, AM, capM, hvp, hbp, p0, hvr, hbr, hv, hvM, q0, q1, q2, q3, qf⟩
theorem pairB_nat {n : Nat} {a b : Int} (h : pairB n a b = true) : ∃ x y : Nat, a = x ∧ b = y ∧ x < n ∧ y < n ∧ x ≠ y := by
  simp only [pairB, decide_eq_true_eq] at h
  exact ⟨a.toNat, b.toNat, by omega, by omega, by omega, by omega, by omega⟩
theorem rgive_quota {w : World} {ρ : Nat → RR} {g : Nat} {S : ES} {vU vS vR vP : Value} {vr : Nat → Value} {vT vM : Nat → Nat → Value} {mz : Nat → Nat → List (Value × EM)}
    (h : RefAt w ρ g S vU vS vR vP vr vT vM mz) {a b : Nat} (ha : a < S.acc.length) (hb : b < S.acc.length) (hne : a ≠ b) (k : Int) (hk : 1 ≤ k) (hu : (S.ac a).u < k) :
    Calls Try.prog 78 #[.pointer (some ⟨g, 0, none⟩), .int .i64 a, .int .i64 b, .int .i64 k] w fun e w' => e = .returned (.int .i64 19) ∧ w' = w := by
  obtain ⟨c0, _⟩ := h.cells
  have hia : isB S.acc.length a = true := by simp only [isB, decide_eq_true_eq]; omega
  have hib : isB S.acc.length b = true := by simp only [isB, decide_eq_true_eq]; omega
  have hx := ES.ac_get hia
  rw [Int.toNat_natCast] at hx
  obtain ⟨gu, ou, cu, rfl, bu, u0, fu⟩ := arr_get ucell_len h.un hx rfl
  have Ha := is_at c0 a
  have Hb := is_at c0 b
  rw [hia] at Ha
  rw [hib] at Hb
  have hab : ((a : Int) == (b : Int)) = false := by rw [beq_eq_false_iff_ne]; omega
  have hk0 : ¬ k < 1 := by omega
  have i0 : ¬ (a : Int) < 0 := by omega
  have i1 : (a : Int) < S.acc.length := by omega
  have Ha := Lib.hid Ha
  have Hb := Lib.hid Hb
  clear h hia hib hx ha hb hk hne
  go_enter Try.func78, Try.ntmps78
  go_wp2_with fail
  refine Ha.out.mono ?_
  rintro e w' ⟨rfl, rfl⟩
  go_wp2_with fail
  refine Hb.out.mono ?_
  rintro e w' ⟨rfl, rfl⟩
  go_wp2_with fail
  go_ret
  exact ⟨rfl, rfl⟩
theorem rgive_full {w : World} {ρ : Nat → RR} {g : Nat} {S : ES} {vU vS vR vP : Value} {vr : Nat → Value} {vT vM : Nat → Nat → Value} {mz : Nat → Nat → List (Value × EM)}
    (h : RefAt w ρ g S vU vS vR vP vr vT vM mz) {a b : Nat} (ha : a < S.acc.length) (hb : b < S.acc.length) (hne : a ≠ b) (k : Int) (hk : 1 ≤ k) (hu : ¬ (S.ac a).u < k) (hq : (S.ln a b).conf + 100 ≤ (S.ln a b).all.length) (hm : (S.ln a b).all.length ≤ 1000000) :
    Calls Try.prog 78 #[.pointer (some ⟨g, 0, none⟩), .int .i64 a, .int .i64 b, .int .i64 k] w fun e w' => e = .returned (.int .i64 28) ∧ Fr None' w w' := by
  obtain ⟨c0, _, _, c3, _⟩ := h.cells
  have hia : isB S.acc.length a = true := by simp only [isB, decide_eq_true_eq]; omega
  have hib : isB S.acc.length b = true := by simp only [isB, decide_eq_true_eq]; omega
  have hx := ES.ac_get hia
  rw [Int.toNat_natCast] at hx
  obtain ⟨gu, ou, cu, rfl, bu, u0, fu⟩ := arr_get ucell_len h.un hx rfl
  obtain ⟨gp, op, cp, gr, orr, cr, A, cap, AM, capM, rfl, _, p0, _, _, _, _, q0, q1, q2, q3, _⟩ := h.pairAt ha hb
  have Ha := is_at c0 a
  have Hb := is_at c0 b
  rw [hia] at Ha
  rw [hib] at Hb
  have hab : ((a : Int) == (b : Int)) = false := by rw [beq_eq_false_iff_ne]; omega
  have hk0 : ¬ k < 1 := by omega
  have i0 : ¬ (a : Int) < 0 := by omega
  have i1 : (a : Int) < S.acc.length := by omega
  have j0 : ¬ (b : Int) < 0 := by omega
  have j1 : (b : Int) < S.acc.length := by omega
  have hw : wrap64 (((S.ln a b).all.length : Int) - ((S.ln a b).conf : Int)) = ((S.ln a b).all.length : Int) - ((S.ln a b).conf : Int) := w64 (by omega) (by omega)
  have hge : (100 : Int) ≤ ((S.ln a b).all.length : Int) - ((S.ln a b).conf : Int) := by omega
  have Ha := Lib.hid Ha
  have Hb := Lib.hid Hb
  clear h hia hib hx ha hb hk hne hq hm
  go_enter Try.func78, Try.ntmps78
  go_wp2_with fail
  refine Ha.out.mono ?_
  rintro e w' ⟨rfl, rfl⟩
  go_wp2_with fail
  refine Hb.out.mono ?_
  rintro e w' ⟨rfl, rfl⟩
  go_wp2_with fail
  go_ret
  exact ⟨rfl, (Fr.refl _ _).alloc _⟩
end Go.Proofs.Ytdjaofkbgkifkaa

/- The reference of chapter 36: Deliver where nothing waits. -/
import Derived.Test.YtdjaofkbgkifkaaE42
set_option linter.unusedVariables false
set_option linter.unusedSimpArgs false
namespace Go.Proofs.Ytdjaofkbgkifkaa
open Go.RowKit

set_option maxHeartbeats 4000000 in
set_option maxRecDepth 100000 in
theorem rdel_arg {w : World} {g : Nat} {A : Option Addr} {n cap : Nat} (c0 : w.cell? ⟨g, 0, none⟩ = some (.slice A n cap)) (a b : Int) (lost again : Bool) (hp : pairB n a b = false) :
    Calls Try.prog 80 #[.pointer (some ⟨g, 0, none⟩), .int .i64 a, .int .i64 b, .bool lost, .bool again] w fun e w' => e = .returned (.bool false) ∧ w' = w := by
  have Ha := is_at c0 a
  have Hb := is_at c0 b
  rcases pairB_split hp with h1 | ⟨h1, h2⟩ | ⟨h1, h2, h3⟩
  · rw [h1] at Ha
    have Ha := Lib.hid Ha
    clear Hb hp h1
    go_enter Try.func80, Try.ntmps80
    go_wp2_with fail
    refine Ha.out.mono ?_
    rintro e w' ⟨rfl, rfl⟩
    go_wp2_with fail
    go_ret
    exact ⟨rfl, rfl⟩
  · rw [h1] at Ha
    rw [h2] at Hb
    have Ha := Lib.hid Ha
    have Hb := Lib.hid Hb
    clear hp h1 h2
    go_enter Try.func80, Try.ntmps80
    go_wp2_with fail
    refine Ha.out.mono ?_
    rintro e w' ⟨rfl, rfl⟩
    go_wp2_with fail
    refine Hb.out.mono ?_
    rintro e w' ⟨rfl, rfl⟩
    go_wp2_with fail
    go_ret
    exact ⟨rfl, rfl⟩
  · subst h3
    rw [h1] at Ha
    have Ha := Lib.hid Ha
    clear hp h1 h2 Hb
    go_enter Try.func80, Try.ntmps80
    go_wp2_with fail
    refine Ha.out.mono ?_
    rintro e w' ⟨rfl, rfl⟩
    go_wp2_with fail
    refine Ha.out.mono ?_
    rintro e w' ⟨rfl, rfl⟩
    go_wp2_with fail
    go_ret
    exact ⟨rfl, rfl⟩
set_option maxHeartbeats 4000000 in
set_option maxRecDepth 100000 in
theorem rdel_empty {w : World} {ρ : Nat → RR} {g : Nat} {S : ES} {vU vS vR vP : Value} {vr : Nat → Value} {vT vM : Nat → Nat → Value} {mz : Nat → Nat → List (Value × EM)}
    (h : RefAt w ρ g S vU vS vR vP vr vT vM mz) {a b : Nat} (ha : a < S.acc.length) (hb : b < S.acc.length) (hne : a ≠ b) (hq : (S.ln a b).ms = []) (lost again : Bool) :
    Calls Try.prog 80 #[.pointer (some ⟨g, 0, none⟩), .int .i64 a, .int .i64 b, .bool lost, .bool again] w fun e w' => e = .returned (.bool false) ∧ w' = w := by
  obtain ⟨c0, _, _, c3, _⟩ := h.cells
  have hia : isB S.acc.length a = true := by simp only [isB, decide_eq_true_eq]; omega
  have hib : isB S.acc.length b = true := by simp only [isB, decide_eq_true_eq]; omega
  obtain ⟨A0, cap0, rfl⟩ := arr_form ucell_len h.un
  obtain ⟨gp, op, cp, gr, orr, cr, A, cap, AM, capM, rfl, _, p0, _, _, _, _, q0, q1, q2, q3, _⟩ := h.pairAt ha hb
  rw [hq] at q3
  simp only [List.length_nil] at q3
  have Ha := is_at c0 a
  have Hb := is_at c0 b
  rw [hia] at Ha
  rw [hib] at Hb
  have hab : ((a : Int) == (b : Int)) = false := by rw [beq_eq_false_iff_ne]; omega
  have i0 : ¬ (a : Int) < 0 := by omega
  have i1 : (a : Int) < S.acc.length := by omega
  have j0 : ¬ (b : Int) < 0 := by omega
  have j1 : (b : Int) < S.acc.length := by omega
  have Ha := Lib.hid Ha
  have Hb := Lib.hid Hb
  clear h hia hib ha hb hne hq
  go_enter Try.func80, Try.ntmps80
  go_wp2_with fail
  refine Ha.out.mono ?_
  rintro e w' ⟨rfl, rfl⟩
  go_wp2_with fail
  refine Hb.out.mono ?_
  rintro e w' ⟨rfl, rfl⟩
  go_wp2_with fail
  go_ret
  exact ⟨rfl, rfl⟩
/-- The queue's next state. -/
theorem rnext_end {w w4 : World} {ρ : Nat → RR} {g : Nat} {S : ES} {vU vS vR vP : Value} {vr : Nat → Value} {vT vM : Nat → Nat → Value} {mz : Nat → Nat → List (Value × EM)} {v4 : Value} {zs : List (Value × EM)}
    (h : RefAt w ρ g S vU vS vR vP vr vT vM mz) {a b : Nat} (ha : a < S.acc.length) (hb : b < S.acc.length) (hne : a ≠ b)
    {gr orr cr : Nat} (hvr : vr a = .slice (some ⟨gr, orr, none⟩) S.acc.length cr) (hbr : rowBlk (vr a) = some gr) (hf : Fr None' w w4)
    (hr4 : Row w4 4 v4 (zs.flatMap qcells)) (hb4 : ∀ k, rowBlk v4 = some k → w.heap.size ≤ k) (hzs : ∀ q ∈ zs, q ∈ mz a b) :
    ∃ ρ', RefAt (w4.setCell ⟨gr, orr + b * 4 + 3, none⟩ v4) ρ' g (eNext S a b (zs.map (·.2))) vU vS vR vP vr vT (nupd vM a b v4) (nupd mz a b zs) ∧ (∀ k, k < w.heap.size → ρ' k = ρ k) ∧ (∀ k, ρ' k ≠ .other → k < w.heap.size ∨ (w.heap.size ≤ k ∧ k < w4.heap.size)) := by
  have hR : ρ gr = .row a := h.rw_ a ha gr hbr
  have s4 := hf.size
  obtain ⟨ρ', hρ⟩ : ∃ ρ' : Nat → RR, ρ' = fun k => if k < w.heap.size then ρ k else if k < w4.heap.size then .ms a b else .other := ⟨_, rfl⟩
  have r1 : ∀ k, k < w.heap.size → ρ' k = ρ k := fun k hk => by rw [hρ]; simp only [if_pos hk]
  have r3 : ∀ k, w.heap.size ≤ k → k < w4.heap.size → ρ' k = .ms a b := fun k h1 h2 => by rw [hρ]; simp only [if_neg (show ¬ k < w.heap.size by omega), if_pos h2]
  have E1 := (h.role (ρ' := ρ') (fun k hk _ => r1 k hk)).fr hf (fun _ _ h => h)
  have hgr : gr < w.heap.size := (h.row a ha).lt hbr
  have hgr' : ρ' gr = .row a := by rw [r1 gr hgr, hR]
  have hb4' : ∀ k, rowBlk v4 = some k → ρ' k = .ms a b := fun k hk => r3 k (hb4 k hk) (hr4.lt hk)
  have hn : ∀ k, ρ' k ≠ .row a → k ≠ gr := fun k hk e => hk (by rw [e]; exact hgr')
  refine ⟨ρ', ?_, r1, fun k hk => ?_⟩
  · have E2 := E1.putLine (w' := w4.setCell ⟨gr, orr + b * 4 + 3, none⟩ v4) (l := { S.ln a b with ms := zs.map (·.2) }) (t' := vT a b) (M' := v4) (z' := zs) ha hb hne ?_ ?_ ?_ rfl ?_ (by rw [setCell_size]; exact Nat.le_refl _) (fun k _ h1 _ _ _ => setCell_other (hn k h1)) (E1.rt a b ha hb) hb4'
    · rw [nupd_self] at E2
      exact E2
    · have := E1.row a ha
      rw [hvr] at this ⊢
      exact this.putR (f := pcells S vT vM a) (f' := pcells (S.putL a b { S.ln a b with ms := zs.map (·.2) }) (nupd vT a b (vT a b)) (nupd vM a b v4) a) (fun _ => rfl) hb (j := 3) (by decide) (u := v4) (fun y hy => pcells_other hy) (by rw [pcells_same]; rfl)
    · exact (E1.tr a b ha hb).kept (fun k hk => setCell_other (hn k (by rw [E1.rt a b ha hb k hk]; simp)))
    · exact hr4.kept (fun k hk => setCell_other (hn k (by rw [hb4' k hk]; simp)))
    · exact fun q hq => (E1.im a b ha hb q (hzs q hq)).keep (by rw [setCell_size]; exact Nat.le_refl _) (fun k _ hi => setCell_other (hn k (by rw [hi]; simp))) (fun _ _ h => h)
  · rw [hρ] at hk
    simp only [] at hk
    split at hk
    · exact .inl ‹_›
    · split at hk
      · exact .inr ⟨by omega, ‹_›⟩
      · exact absurd rfl hk
end Go.Proofs.Ytdjaofkbgkifkaa

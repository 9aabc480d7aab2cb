/- The reference of chapter 36: Send. -/
import Derived.Test.YtdjaofkbgkifkaaE39
set_option linter.unusedVariables false
set_option linter.unusedSimpArgs false
namespace Go.Proofs.Ytdjaofkbgkifkaa
open Go.RowKit

theorem rsend_arg {w : World} {g : Nat} {A : Option Addr} {n cap : Nat} (c0 : w.cell? ⟨g, 0, none⟩ = some (.slice A n cap)) (a b : Int) (hp : pairB n a b = false) :
    Calls Try.prog 79 #[.pointer (some ⟨g, 0, none⟩), .int .i64 a, .int .i64 b] w fun e w' => e = .returned (.int .i64 1) ∧ w' = w := by
  have Ha := is_at c0 a
  have Hb := is_at c0 b
  rcases pairB_split hp with h1 | ⟨h1, h2⟩ | ⟨h1, h2, h3⟩
  · rw [h1] at Ha
    have Ha := Lib.hid Ha
    clear Hb hp h1
    go_enter Try.func79, Try.ntmps79
    go_wp2_with fail
    refine Ha.out.mono ?_
    rintro e w' ⟨rfl, rfl⟩
    go_wp2_with fail
    go_ret
    exact ⟨rfl, rfl⟩
  · rw [h1] at Ha
    rw [h2] at Hb
    have Ha := Lib.hid Ha
    have Hb := Lib.hid Hb
    clear hp h1 h2
    go_enter Try.func79, Try.ntmps79
    go_wp2_with fail
    refine Ha.out.mono ?_
    rintro e w' ⟨rfl, rfl⟩
    go_wp2_with fail
    refine Hb.out.mono ?_
    rintro e w' ⟨rfl, rfl⟩
    go_wp2_with fail
    go_ret
    exact ⟨rfl, rfl⟩
  · subst h3
    rw [h1] at Ha
    have Ha := Lib.hid Ha
    clear hp h1 h2 Hb
    go_enter Try.func79, Try.ntmps79
    go_wp2_with fail
    refine Ha.out.mono ?_
    rintro e w' ⟨rfl, rfl⟩
    go_wp2_with fail
    refine Ha.out.mono ?_
    rintro e w' ⟨rfl, rfl⟩
    go_wp2_with fail
    go_ret
    exact ⟨rfl, rfl⟩
theorem rsend_full {w : World} {ρ : Nat → RR} {g : Nat} {S : ES} {vU vS vR vP : Value} {vr : Nat → Value} {vT vM : Nat → Nat → Value} {mz : Nat → Nat → List (Value × EM)}
    (h : RefAt w ρ g S vU vS vR vP vr vT vM mz) {a b : Nat} (ha : a < S.acc.length) (hb : b < S.acc.length) (hne : a ≠ b) (hq : 100 ≤ (S.ln a b).ms.length) :
    Calls Try.prog 79 #[.pointer (some ⟨g, 0, none⟩), .int .i64 a, .int .i64 b] w fun e w' => e = .returned (.int .i64 28) ∧ Fr None' w w' := by
  obtain ⟨c0, _, _, c3, _⟩ := h.cells
  have hia : isB S.acc.length a = true := by simp only [isB, decide_eq_true_eq]; omega
  have hib : isB S.acc.length b = true := by simp only [isB, decide_eq_true_eq]; omega
  have hx := ES.ac_get hia
  rw [Int.toNat_natCast] at hx
  obtain ⟨gu, ou, cu, rfl, bu, u0, fu⟩ := arr_get ucell_len h.un hx rfl
  obtain ⟨gp, op, cp, gr, orr, cr, A, cap, AM, capM, rfl, _, p0, _, _, _, _, q0, q1, q2, q3, _⟩ := h.pairAt ha hb
  have Ha := is_at c0 a
  have Hb := is_at c0 b
  rw [hia] at Ha
  rw [hib] at Hb
  have hab : ((a : Int) == (b : Int)) = false := by rw [beq_eq_false_iff_ne]; omega
  have i0 : ¬ (a : Int) < 0 := by omega
  have i1 : (a : Int) < S.acc.length := by omega
  have j0 : ¬ (b : Int) < 0 := by omega
  have j1 : (b : Int) < S.acc.length := by omega
  have hge : (100 : Int) ≤ (S.ln a b).ms.length := by omega
  have Ha := Lib.hid Ha
  have Hb := Lib.hid Hb
  clear h hia hib hx ha hb hne hq
  go_enter Try.func79, Try.ntmps79
  go_wp2_with fail
  refine Ha.out.mono ?_
  rintro e w' ⟨rfl, rfl⟩
  go_wp2_with fail
  refine Hb.out.mono ?_
  rintro e w' ⟨rfl, rfl⟩
  go_wp2_with fail
  go_ret
  exact ⟨rfl, (Fr.refl _ _).alloc _⟩
theorem info161 : (Try.prog.info? 161).map (fun i => (i.zero, i.size, i.bytes)) = some (some (.agg #[.int .i64 0, .slice none 0 0, .int .i64 0, .bool false]), 4, 48) := by kernel_rfl
theorem row_read {w : World} {A : Option Addr} {n cap : Nat} {l : List Int} (h : Row w 1 (.slice A n cap) (l.flatMap icell)) {r : Nat} {y : Int} (hx : l[r]? = some y) : ∃ g off, A = some ⟨g, off, none⟩ ∧ rowBlk (.slice A n cap) = some g ∧ w.cell? ⟨g, off + r, none⟩ = some (.int .i64 y) := by
  obtain ⟨g, off, cap', he, hb, hc, _⟩ := arr_get (f := icell) (fun _ => rfl) h hx rfl
  cases he
  exact ⟨g, off, rfl, hb, hc⟩
theorem Row.rdR {ρ : Nat → RR} {w : World} {v : Value} {xs : List Int} (h : Row w 1 v (xs.flatMap icell)) (hρ : ∀ k, rowBlk v = some k → ρ k = .imm) : RdR ρ w v xs := by
  obtain ⟨A, n, cap, rfl, hn⟩ := h.form
  have hn' : n = xs.length := by rw [flat_length _ 1 icell_len] at hn; omega
  refine ⟨A, n, cap, rfl, hn', fun hp => ?_⟩
  obtain ⟨g, off, rfl, hb, hc⟩ := h.at_ (i := 0) hp
  refine ⟨g, off, rfl, hρ g hb, h.lt hb, fun j x hj => ?_⟩
  obtain ⟨g', off', he, _, hc'⟩ := row_read h hj
  cases he
  exact hc'
theorem rsend_end {t : Nat} {w w1 w3 w4 : World} {F : Nat → Prop} {ρ : Nat → RR} {g : Nat} {S : ES} {vU vS vR vP : Value} {vr : Nat → Value} {vT vM : Nat → Nat → Value} {mz : Nat → Nat → List (Value × EM)} {v1 v4 : Value}
    (h : RefAt w ρ g S vU vS vR vP vr vT vM mz) (hF : ∀ k, ρ k ≠ .other → F k) {a b : Nat} (ha : a < S.acc.length) (hb : b < S.acc.length) (hne : a ≠ b) (hok : LineOK t (S.ln a b) (S.ln b a))
    {gr orr cr : Nat} (hvr : vr a = .slice (some ⟨gr, orr, none⟩) S.acc.length cr) (hbr : rowBlk (vr a) = some gr) (hf1 : Fr None' w w1)
    (hr1 : Row w1 1 v1 (((S.ln a b).all.drop (S.ln a b).conf).flatMap icell)) (hb1 : ∀ k, rowBlk v1 = some k → w.heap.size ≤ k) (hf3 : Fr None' w1 w3)
    (hr4 : Row w4 4 v4 ((mz a b).flatMap qcells ++ [(v1, eMsg S a b)].flatMap qcells)) (hg4 : w3.grownBy w4 (rowBlk (vM a b))) (hb4 : rowBlk v4 = rowBlk (vM a b) ∨ rowBlk v4 = some w3.heap.size) :
    RPost w F g (.int .i64 0) (S.putL a b { S.ln a b with ms := (S.ln a b).ms ++ [eMsg S a b] }) (.returned (.int .i64 0)) (w4.setCell ⟨gr, orr + b * 4 + 3, none⟩ v4) := by
  obtain ⟨w5, hw5⟩ : ∃ w5, w5 = w4.setCell ⟨gr, orr + b * 4 + 3, none⟩ v4 := ⟨_, rfl⟩
  rw [← hw5]
  have hM : ∀ k, rowBlk (vM a b) = some k → ρ k = .ms a b := h.rm a b ha hb
  have hR : ρ gr = .row a := h.rw_ a ha gr hbr
  have hFr : F gr := hF _ (by rw [hR]; simp)
  have s5 : w5.heap.size = w4.heap.size := by rw [hw5, setCell_size]
  have s1 := hf1.size
  have s3 := hf3.size
  have s4 := hg4.size
  obtain ⟨ρ', hρ⟩ : ∃ ρ' : Nat → RR, ρ' = fun k => if k < w.heap.size then ρ k else if k < w1.heap.size then .imm else if k < w5.heap.size then .ms a b else .other := ⟨_, rfl⟩
  have r1 : ∀ k, k < w.heap.size → ρ' k = ρ k := fun k hk => by rw [hρ]; simp only [if_pos hk]
  have r2 : ∀ k, w.heap.size ≤ k → k < w1.heap.size → ρ' k = .imm := fun k h1 h2 => by rw [hρ]; simp only [if_neg (show ¬ k < w.heap.size by omega), if_pos h2]
  have r3 : ∀ k, w1.heap.size ≤ k → k < w5.heap.size → ρ' k = .ms a b := fun k h1 h2 => by rw [hρ]; simp only [if_neg (show ¬ k < w.heap.size by omega), if_neg (show ¬ k < w1.heap.size by omega), if_pos h2]
  have E1 := (h.role (ρ' := ρ') (fun k hk _ => r1 k hk)).fr hf1 (fun _ _ h => h)
  have hgr : gr < w.heap.size := (h.row a ha).lt hbr
  have hgr' : ρ' gr = .row a := by rw [r1 gr hgr, hR]
  have f4 : Fr (fun k => ρ' k = .ms a b) w1 w4 := (hf3.mono (fun _ _ h => h.elim)).grown hg4 (fun k hk => .inl (E1.rm a b ha hb k hk))
  have f5 : Fr (fun k => ρ' k = .ms a b ∨ k = gr) w1 w5 := by
    rw [hw5]
    exact (f4.mono (fun _ _ h => .inl h)).setCell (p := ⟨gr, orr + b * 4 + 3, none⟩) (.inl (.inr rfl)) _
  have hb4' : ∀ k, rowBlk v4 = some k → ρ' k = .ms a b := by
    intro k hk
    rcases hb4 with e | e
    · rw [e] at hk; exact E1.rm a b ha hb k hk
    · have h1 := hr4.lt hk
      rw [e] at hk; cases hk
      exact r3 _ s3 (by omega)
  have hlne : ∀ k, rowBlk v4 = some k → k ≠ gr := by
    intro k hk e
    have h1 := hb4' k hk
    rw [e, hgr'] at h1
    cases h1
  have hrow4 := (E1.row a ha).fr f4 (fun k hk e => by rw [E1.rw_ a ha k hk] at e; cases e)
  have E2 := E1.putLine (w' := w5) (l := { S.ln a b with ms := (S.ln a b).ms ++ [eMsg S a b] }) (t' := vT a b) (M' := v4) (z' := mz a b ++ [(v1, eMsg S a b)]) ha hb hne ?_ ?_ ?_ ?_ ?_ f5.size ?_ (E1.rt a b ha hb) hb4'
  · refine ⟨rfl, ⟨ρ', _, _, _, _, _, _, _, _, E2, fun j hj => ?_⟩, ?_⟩
    · rw [hρ] at hj
      simp only [] at hj
      split at hj
      · exact .inl (hF j hj)
      · split at hj
        · exact .inr ⟨by omega, by omega⟩
        · split at hj
          · exact .inr ⟨by omega, by omega⟩
          · exact absurd rfl hj
    · refine (hf1.mono (fun _ _ h => h.elim)).trans f5 (fun i hi e => ?_)
      rcases e with e | e
      · exact hF i (by rw [← r1 i hi, e]; simp)
      · rw [e]; exact hFr
  · rw [hvr] at hrow4 ⊢
    rw [hw5]
    exact hrow4.putR (f := pcells S vT vM a) (f' := pcells (S.putL a b { S.ln a b with ms := (S.ln a b).ms ++ [eMsg S a b] }) (nupd vT a b (vT a b)) (nupd vM a b v4) a) (fun _ => rfl) hb (j := 3) (by decide) (u := v4) (fun y hy => pcells_other hy) (by rw [pcells_same]; rfl)
  · exact (E1.tr a b ha hb).fr f5 (fun k hk e => by
      have h1 := E1.rt a b ha hb k hk
      rcases e with e | e
      · rw [e] at h1; cases h1
      · rw [e, hgr'] at h1; cases h1)
  · rw [List.flatMap_append]
    refine hr4.kept (fun k hk => ?_)
    rw [hw5, setCell_other (hlne k hk)]
  · rw [List.map_append, h.mq a b ha hb]; rfl
  · intro q hq
    rcases List.mem_append.1 hq with hq | hq
    · exact (E1.im a b ha hb q hq).keep f5.size (fun j hj hi => f5.block j hj (fun e => by
        rcases e with e | e
        · rw [e] at hi; cases hi
        · rw [e, hgr'] at hi; cases hi)) (fun _ _ h => h)
    · simp only [List.mem_singleton] at hq
      subst hq
      have e : (eMsg S a b).tr (S.ln a b).all = (S.ln a b).all.drop (S.ln a b).conf := by simp [EM.tr, eMsg]
      show RdR ρ' w5 v1 ((eMsg S a b).tr (S.ln a b).all)
      rw [e]
      have hi1 : ∀ k, rowBlk v1 = some k → ρ' k = .imm := fun k hk => r2 k (hb1 k hk) (hr1.lt hk)
      refine (hr1.fr f5 (fun k hk e => ?_)).rdR hi1
      have h1 := hi1 k hk
      rcases e with e | e
      · rw [e] at h1; cases h1
      · rw [e, hgr'] at h1; cases h1
  · intro j hj h1 h2 h3 h4
    exact f5.block j hj (fun e => by
      rcases e with e | e
      · exact h3 e
      · rw [e] at h1; exact h1 hgr')
end Go.Proofs.Ytdjaofkbgkifkaa

/- The reference network: New, Do. -/
import Derived.Test.YtdgcimjpggjnjaaNsim
set_option linter.unusedVariables false
set_option linter.unusedSimpArgs false
namespace Go.Proofs.Ytdgcimjpggjnjaa
open Go.RowKit

theorem rnew_ok (n : Int) (w : World) (h1 : 1 ≤ n) (h2 : n ≤ 8) :
    Calls Try.prog 16 #[.int .i64 n] w fun e w' => ∃ g, e = .returned (.tuple #[.pointer (some ⟨g, 0, none⟩), .int .i64 0]) ∧ RefIs w' (Ext None' w w') g ⟨n, [], []⟩ ∧ Fr None' w w' := by
  have h1' : ¬ n < 1 := by omega
  go_enter Try.func16, Try.ntmps16
  go_wp2_with fail
  try simp only [Exit.inBlock, Exit.then]
  refine bodyPost_ret (results_tmp2 rfl _ _ _) rfl ⟨_, rfl, ⟨.slice none 0 0, .slice none 0 0, heap_alloc_new w _, .inr ⟨Nat.le_refl _, by simp⟩, Row.nil _ _ _, Row.nil _ _ _, fun k hk => by simp [rowBlk] at hk, fun k hk => by simp [rowBlk] at hk, by simp, by simp⟩, (Fr.refl _ _).alloc _⟩
theorem rnew_bad (n : Int) (w : World) (h : n < 1 ∨ 8 < n) :
    Calls Try.prog 16 #[.int .i64 n] w fun e w' => e = .returned (.tuple #[.pointer none, .int .i64 1]) ∧ Fr None' w w' := by
  by_cases h1 : n < 1
  · clear h
    go_enter Try.func16, Try.ntmps16
    go_wp2_with fail
    try simp only [Exit.inBlock, Exit.then]
    exact bodyPost_ret (results_tmp2 rfl _ _ _) rfl ⟨rfl, Fr.refl _ _⟩
  · have h2 : 8 < n := by omega
    clear h
    go_enter Try.func16, Try.ntmps16
    go_wp2_with fail
    try simp only [Exit.inBlock, Exit.then]
    exact bodyPost_ret (results_tmp2 rfl _ _ _) rfl ⟨rfl, Fr.refl _ _⟩
theorem rdo_end {w w1 w2 : World} {F : Nat → Prop} {g : Nat} {S : RS} {x : Stp} (hn : RefIs w1 (Ext F (doW w x) w1) g S) (hf : Fr F (doW w x) w1) (hF : ∀ k, w.heap.size ≤ k → ¬ F k)
    (h2 : Fr (fun k => k = w.heap.size + 1) w1 w2) : RefIs w2 (Ext F w w2) g S ∧ Fr F w w2 := by
  have hd : ∀ k, Ext F (doW w x) w1 k → ¬ k = w.heap.size + 1 := by
    intro k hk he
    subst he
    rcases hk with hk | hk
    · exact hF _ (Nat.le_succ _) hk
    · have := hk.1; rw [doW_size] at this; omega
  refine ⟨(hn.fr h2 hd).mono (fun k hk => ?_), ?_⟩
  · rcases hk with hk | hk
    · exact .inl hk
    · exact .inr ⟨by have := hk.1; rw [doW_size] at this; omega, Nat.lt_of_lt_of_le hk.2 h2.size⟩
  · have h01 : Fr F w w1 := (fr_none (doW_fr w x)).trans hf (fun _ _ h => h)
    exact h01.trans h2 (fun i hi hk => by omega)
theorem rdo_any {w : World} {F : Nat → Prop} {g : Nat} {S : RS} (hn : RefIs w F g S) (hF : ∀ k, w.heap.size ≤ k → ¬ F k) (hL : S.L.length < 1000) (hG : S.G.length < 1000) (x : Stp) (ht : x.text.size ≤ 9223372036854775807) :
    Calls Try.prog 18 #[.pointer (some ⟨g, 0, none⟩), x.val] w fun e w' => e = .returned (rDo S x).1.val ∧ RefIs w' (Ext F w w') g (rDo S x).2 ∧ Fr F w w' := by
  obtain ⟨k, a, b, t, l, gn⟩ := x
  simp only [Stp.val]
  simp only at ht
  have Hn := Lib.hid hn
  have HF := Lib.hid hF
  clear hn hF
  by_cases h0 : k = 0
  · subst h0
    simp only [rDo, if_true]
    have H0 : Hid (RefIs (doW w ⟨0, a, b, t, l, gn⟩) F g S) := Lib.hid (Hn.out.fr (doW_fr w _) (fun _ _ h => h))
    go_enter Try.func18, Try.ntmps18
    go_wp2_with fail
    refine (rsend_any H0.out a b t ht hL).mono ?_
    rintro e w1 ⟨rfl, hn1, hf1⟩
    have hblk := doW_blk hf1 HF.out
    obtain ⟨hc0, hc1, hc2, hz⟩ := three_cells hblk
    have Hblk := Lib.hid hblk
    have Hn1 := Lib.hid hn1
    have Hf1 := Lib.hid hf1
    clear hn1 hf1 hblk
    go_wp2_with fail
    try simp only [Exit.inBlock, Exit.then]
    refine bodyPost_ret (results_cell_row rfl _ _ (w.heap.size + 1) 42 #[.int .i64 (rSend S a b t).1, .string ⟨#[]⟩, .bool false] (0, 0) _ rfl (set3 Hblk.out _ _ _) Try.underlying42 rfl (by kernel_rfl)) rfl ?_
    exact ⟨rfl, rdo_end Hn1.out Hf1.out HF.out (fr_set3 (F := fun k => k = w.heap.size + 1) rfl _ _ _)⟩
  · by_cases h1 : k = 1
    · subst h1
      simp only [rDo, if_true, show ¬ ((1 : Int) = 0) from by decide, if_false]
      have H0 : Hid (RefIs (doW w ⟨1, a, b, t, l, gn⟩) F g S) := Lib.hid (Hn.out.fr (doW_fr w _) (fun _ _ h => h))
      go_enter Try.func18, Try.ntmps18
      go_wp2_with fail
      refine (rdel_any H0.out a b l gn).mono ?_
      rintro e w1 ⟨rfl, hn1, hf1⟩
      have hblk := doW_blk hf1 HF.out
      obtain ⟨hc0, hc1, hc2, hz⟩ := three_cells hblk
      have Hblk := Lib.hid hblk
      have Hn1 := Lib.hid hn1
      have Hf1 := Lib.hid hf1
      clear hn1 hf1 hblk
      go_wp2_with fail
      try simp only [Exit.inBlock, Exit.then]
      refine bodyPost_ret (results_cell_row rfl _ _ (w.heap.size + 1) 42 #[.int .i64 0, .string (rDeliver S a b l gn).1.1, .bool (rDeliver S a b l gn).1.2] (0, 0) _ rfl (set3 Hblk.out _ _ _) Try.underlying42 rfl (by kernel_rfl)) rfl ?_
      exact ⟨rfl, rdo_end Hn1.out Hf1.out HF.out (fr_set3 (F := fun k => k = w.heap.size + 1) rfl _ _ _)⟩
    · have e0 : (k == 0) = false := by simpa using h0
      have e1 : (k == 1) = false := by simpa using h1
      by_cases h2 : k = 2
      · subst h2
        simp only [rDo, if_true, show ¬ ((2 : Int) = 0) from by decide, show ¬ ((2 : Int) = 1) from by decide, if_false]
        have H0 : Hid (RefIs (doW w ⟨2, a, b, t, l, gn⟩) F g S) := Lib.hid (Hn.out.fr (doW_fr w _) (fun _ _ h => h))
        go_enter Try.func18, Try.ntmps18
        go_wp2_with fail
        refine (rcutc_any H0.out a b hG).mono ?_
        rintro e w1 ⟨rfl, hn1, hf1⟩
        have hblk := doW_blk hf1 HF.out
        obtain ⟨hc0, hc1, hc2, hz⟩ := three_cells hblk
        have Hblk := Lib.hid hblk
        have Hn1 := Lib.hid hn1
        have Hf1 := Lib.hid hf1
        clear hn1 hf1 hblk
        go_wp2_with fail
        try simp only [Exit.inBlock, Exit.then]
        refine bodyPost_ret (results_cell_row rfl _ _ (w.heap.size + 1) 42 #[.int .i64 (rCut S a b).1, .string ⟨#[]⟩, .bool false] (0, 0) _ rfl (set3 Hblk.out _ _ _) Try.underlying42 rfl (by kernel_rfl)) rfl ?_
        exact ⟨rfl, rdo_end Hn1.out Hf1.out HF.out (fr_set3 (F := fun k => k = w.heap.size + 1) rfl _ _ _)⟩
      · have e2 : (k == 2) = false := by simpa using h2
        simp only [rDo, if_neg h0, if_neg h1, if_neg h2]
        have H0 : Hid (RefIs (doW w ⟨k, a, b, t, l, gn⟩) F g S) := Lib.hid (Hn.out.fr (doW_fr w _) (fun _ _ h => h))
        go_enter Try.func18, Try.ntmps18
        go_wp2_with fail
        refine (rheal_any H0.out a b).mono ?_
        rintro e w1 ⟨rfl, hn1, hf1⟩
        have hblk := doW_blk hf1 HF.out
        obtain ⟨hc0, hc1, hc2, hz⟩ := three_cells hblk
        have Hblk := Lib.hid hblk
        have Hn1 := Lib.hid hn1
        have Hf1 := Lib.hid hf1
        clear hn1 hf1 hblk
        go_wp2_with fail
        try simp only [Exit.inBlock, Exit.then]
        refine bodyPost_ret (results_cell_row rfl _ _ (w.heap.size + 1) 42 #[.int .i64 (rHeal S a b).1, .string ⟨#[]⟩, .bool false] (0, 0) _ rfl (set3 Hblk.out _ _ _) Try.underlying42 rfl (by kernel_rfl)) rfl ?_
        exact ⟨rfl, rdo_end Hn1.out Hf1.out HF.out (fr_set3 (F := fun k => k = w.heap.size + 1) rfl _ _ _)⟩

end Go.Proofs.Ytdgcimjpggjnjaa

/- The reference network: Waiting, Send. -/
import Derived.Test.YtdgcimjpggjnjaaNref
set_option linter.unusedVariables false
set_option linter.unusedSimpArgs false
namespace Go.Proofs.Ytdgcimjpggjnjaa
open Go.RowKit

theorem rTexts_snoc (L : List Msg) (m : Msg) (a b : Int) : rTexts (L ++ [m]) a b = rTexts L a b ++ if toB a b m then [m.t] else [] := by
  unfold rTexts
  rw [List.filter_append, List.map_append]
  by_cases h : toB a b m = true
  · simp [h]
  · simp [h]
theorem rTexts_len (L : List Msg) (a b : Int) : (rTexts L a b).length ≤ L.length := by
  unfold rTexts
  rw [List.length_map]
  exact List.length_filter_le _ _
theorem rwait_no {w : World} {F : Nat → Prop} {g : Nat} {S : RS} (hr : RefIs w F g S) (a b : Int) (hk : knowsB S.N a b = false) :
    Calls Try.prog 19 #[.pointer (some ⟨g, 0, none⟩), .int .i64 a, .int .i64 b] w fun e w' => e = .returned nilS ∧ Fr None' w w' := by
  obtain ⟨vL, vG, h⟩ := hr
  obtain ⟨A, n, cap, rfl, hn⟩ := h.rdM.len
  obtain ⟨c0, c1, c2, _⟩ := h.cells
  have hp := pair_ok S.N a b g w c0
  rw [hk] at hp
  have HP := Lib.hid hp
  clear h hn hp hk
  rw [nilS]
  go_enter Try.func19, Try.ntmps19
  go_wp2_with fail
  go_loopw [7, 8] (fun v i wr => wr = w ∧ v = .slice none 0 0 ∧ i = .int .i64 0) (fun _ _ _ => 0)
  case atStart => exact ⟨rfl, rfl, rfl⟩
  case round =>
    obtain ⟨rfl, rfl, rfl⟩ := hrel
    by_cases h0 : (0 : Int) < (n : Int)
    · go_wp2_with fail
      refine HP.out.mono ?_
      rintro e w' ⟨rfl, rfl⟩
      go_wp2_with fail
      go_ret
      exact ⟨rfl, Fr.refl _ _⟩
    · go_wp2_with fail
      go_ret
      exact ⟨rfl, Fr.refl _ _⟩
theorem rwait_ok {w : World} {F : Nat → Prop} {g : Nat} {S : RS} (hr : RefIs w F g S) (a b : Int) (hk : knowsB S.N a b = true) :
    Calls Try.prog 19 #[.pointer (some ⟨g, 0, none⟩), .int .i64 a, .int .i64 b] w fun e w' => ∃ v, e = .returned v ∧ Row w' 1 v (strs (rTexts S.L a b)) ∧ Fr None' w w' := by
  obtain ⟨vL, vG, h⟩ := hr
  obtain ⟨A, n, cap, rfl, hn⟩ := h.rdM.len
  obtain ⟨c0, c1, c2, _⟩ := h.cells
  have hn1 : n ≤ 1000 := by have := h.bl; omega
  have H := Lib.hid h
  have Hn := Lib.hid hn
  have Hk := Lib.hid hk
  clear h hn hk
  go_enter Try.func19, Try.ntmps19
  go_wp2_with fail
  go_loopw [7, 8] (fun v i wr => ∃ k : Nat, k ≤ n ∧ i = .int .i64 k ∧ Row wr 1 v (strs (rTexts (S.L.take k) a b)) ∧ (∀ j, rowBlk v = some j → w.heap.size ≤ j) ∧ Fr None' w wr) (fun _ i _ => n - (intOf i).toNat)
  case atStart => exact ⟨0, Nat.zero_le _, rfl, Row.nil _ _ _, fun j hj => by simp [rowBlk] at hj, Fr.refl _ _⟩
  case round =>
    obtain ⟨k, hk, rfl, hrow, hown, hf⟩ := hrel
    have e0 := hf.cell c0 (fun h => h)
    have e1 := hf.cell c1 (fun h => h)
    have Hf := Lib.hid hf
    have Hrow := Lib.hid hrow
    have Hown := Lib.hid hown
    have hs : w.heap.size ≤ wr.heap.size := hf.size
    by_cases hlt : k < n
    · obtain ⟨⟨ma, mb, mt⟩, hp⟩ : ∃ p, S.L[k]? = some p := ⟨_, List.getElem?_eq_getElem (by rw [← Hn.out]; exact hlt)⟩
      obtain ⟨gl, off, rfl, hgl, f0, f1, f2⟩ := RdM.get (H.out.rdM.fr0 hf) hp
      have htk : rTexts (S.L.take (k + 1)) a b = rTexts (S.L.take k) a b ++ if toB a b ⟨ma, mb, mt⟩ then [mt] else [] := by
        rw [List.take_add_one, hp]; exact rTexts_snoc _ _ _ _
      have hlen : (rTexts (S.L.take k) a b).length ≤ 1000 := Nat.le_trans (rTexts_len _ _ _) (by rw [List.length_take]; omega)
      have hki : (k : Int) < (n : Int) := by omega
      simp only at f0 f1 f2
      have Htk := Lib.hid htk
      clear hp hf hrow hown hk htk
      go_wp2_with fail
      refine (pair_ok S.N a b g wr e0).mono ?_
      rw [Hk.out]
      rintro e w' ⟨rfl, rfl⟩
      by_cases hab : toB a b ⟨ma, mb, mt⟩ = true
      · have ha : (ma == a) = true := by simp [toB] at hab; simp [hab]
        have hb : (mb == b) = true := by simp [toB] at hab; simp [hab]
        have htk2 := Htk.out
        rw [if_pos hab] at htk2
        have hrow2 : Row (w'.alloc (.cells #[.string mt] 9)) 1 u7 (strs (rTexts (S.L.take k) a b)) := Hrow.out.fr ((Fr.refl None' w').alloc _) (fun _ _ h => h)
        have Htk2 := Lib.hid htk2
        have Hrow2 := Lib.hid hrow2
        have Hrd : Hid (ReadsAs (w'.alloc (.cells #[.string mt] 9)) (some ⟨w'.heap.size, 0, none⟩) [.string mt]) := Lib.hid (reads_row (heap_alloc_new w' _))
        have Hone : Hid (∀ u ∈ [Value.string mt], u.oneCell' = true) := Lib.hid (by intro u hu; simp at hu; subst hu; rfl)
        clear htk2 hrow2 hab Htk Hrow
        go_wp2_with (at_builtin; refine wpList_append_row _ rfl _ _ 22 9 rfl (.string ⟨#[]⟩) 1 16 Try.underlying22 info9 rfl (by decide) u7 (strs (rTexts (S.L.take k) a b)) rfl Hrow2.out (some ⟨w'.heap.size, 0, none⟩) 1 1 [.string mt] rfl rfl Hrd.out Hone.out ?h4 ?h5 ?_)
        case h4 => rw [strs_length]; simp; omega
        case h5 => rw [strs_length]; simp; omega
        intro v6 w6 hr6 hg6 hb6
        have hr7 : Row w6 1 v6 (strs (rTexts (S.L.take (k + 1)) a b)) := by rw [Htk2.out]; simpa [strs] using hr6
        have hf7 : Fr None' w w6 := (Hf.out.alloc _).grown hg6 (fun j hj => .inr (Hown.out j hj))
        have ho7 : ∀ j, rowBlk v6 = some j → w.heap.size ≤ j := fun j hj => by
          rcases hb6 with h | h
          · rw [h] at hj; exact Hown.out j hj
          · rw [h] at hj; cases hj; omega
        have Hr7 := Lib.hid hr7
        have Hf7 := Lib.hid hf7
        have Ho7 := Lib.hid ho7
        clear hr6 hg6 hb6 hr7 hf7 ho7
        go_wp2_with fail
        all_goals exact ⟨⟨k + 1, by omega, by go_num, Hr7.out, Ho7.out, Hf7.out⟩, by simp [intOf]; omega⟩
      · have htk2 := Htk.out
        rw [if_neg hab, List.append_nil] at htk2
        have hrow2 : Row w' 1 u7 (strs (rTexts (S.L.take (k + 1)) a b)) := by rw [htk2]; exact Hrow.out
        have Hrow2 := Lib.hid hrow2
        clear htk2 hrow2 Hrow Htk
        cases ha : (ma == a) with
        | true =>
          have hb : (mb == b) = false := by
            cases hb : (mb == b) with
            | false => rfl
            | true => exact absurd (by simp [toB, ha, hb]) hab
          clear hab
          go_wp2_with fail
          all_goals exact ⟨⟨k + 1, by omega, by go_num, Hrow2.out, Hown.out, Hf.out⟩, by simp [intOf]; omega⟩
        | false =>
          clear hab
          go_wp2_with fail
          all_goals exact ⟨⟨k + 1, by omega, by go_num, Hrow2.out, Hown.out, Hf.out⟩, by simp [intOf]; omega⟩
    · have hki : ¬ (k : Int) < (n : Int) := by omega
      rw [List.take_of_length_le (by rw [← Hn.out]; omega)] at hrow
      have Hrow3 := Lib.hid hrow
      clear hf hrow hown
      go_wp2_with fail
      go_ret
      exact ⟨_, rfl, Hrow3.out, Hf.out⟩
theorem rwait_any {w : World} {F : Nat → Prop} {g : Nat} {S : RS} (hr : RefIs w F g S) (a b : Int) :
    Calls Try.prog 19 #[.pointer (some ⟨g, 0, none⟩), .int .i64 a, .int .i64 b] w fun e w' => ∃ v, e = .returned v ∧ Row w' 1 v (strs (rWait S a b)) ∧ Fr None' w w' := by
  unfold rWait
  cases hk : knowsB S.N a b with
  | true => exact rwait_ok hr a b hk
  | false =>
    refine (rwait_no hr a b hk).mono ?_
    rintro e w' ⟨he, hf⟩
    exact ⟨_, he, Row.nil _ _ _, hf⟩
end Go.Proofs.Ytdgcimjpggjnjaa

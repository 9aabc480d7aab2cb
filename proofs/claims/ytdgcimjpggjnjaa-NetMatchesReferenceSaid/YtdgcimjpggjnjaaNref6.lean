/- The reference network: Cut. -/
import Derived.Test.YtdgcimjpggjnjaaNref5
set_option linter.unusedVariables false
set_option linter.unusedSimpArgs false
namespace Go.Proofs.Ytdgcimjpggjnjaa
open Go.RowKit

def leftB (G : List (Int × Int)) (m : Msg) : Bool := decide (cutI G m.a m.b < 0)
def CutRel (w6 : World) (S : RS) (G : List (Int × Int)) (k : Nat) (v : Value) (wr : World) : Prop :=
  Row wr 3 v (((S.L.take k).filter (leftB G)).flatMap Msg.cells) ∧ (∀ j, rowBlk v = some j → w6.heap.size ≤ j) ∧ Fr None' w6 wr
theorem filter_len (l : List Msg) (p : Msg → Bool) (k : Nat) : ((l.take k).filter p).length ≤ k := Nat.le_trans (List.length_filter_le _ _) (by rw [List.length_take]; omega)

set_option maxRecDepth 10000 in
set_option maxHeartbeats 2000000 in
theorem rcutc_any {w : World} {F : Nat → Prop} {g : Nat} {S : RS} (hr : RefIs w F g S) (a b : Int) (hG : S.G.length < 1000) :
    Calls Try.prog 28 #[.pointer (some ⟨g, 0, none⟩), .int .i64 a, .int .i64 b] w fun e w' => e = .returned (.int .i64 (rCut S a b).1) ∧ RefIs w' (Ext F w w') g (rCut S a b).2 ∧ Fr F w w' := by
  have Hr0 := Lib.hid hr
  obtain ⟨vL, vG, h⟩ := hr
  obtain ⟨c0, c1, c2, _⟩ := h.cells
  have H := Lib.hid h
  clear h
  have hp := pair_ok S.N a b g w c0
  cases hk : knowsB S.N a b with
  | false =>
    rw [hk] at hp
    have hdel : rCut S a b = (1, S) := by simp [rCut, hk]
    have Hdel := Lib.hid hdel
    have HP := Lib.hid hp
    clear hp hk hdel
    go_enter Try.func28, Try.ntmps28
    go_wp2_with fail
    refine HP.out.mono ?_
    rintro e w1 ⟨rfl, rfl⟩
    go_wp2_with fail
    go_ret
    exact ⟨by rw [Hdel.out] <;> rfl, by rw [Hdel.out]; exact Hr0.out.keep (Fr.refl _ _), fr_none (Fr.refl _ _)⟩
  | true =>
    rw [hk] at hp
    have HP := Lib.hid hp
    have hc := rcut_any Hr0.out a b
    by_cases hx : 0 ≤ cutI S.G a b
    · have hdel : rCut S a b = (12, S) := by simp [rCut, hk, hx]
      obtain ⟨x, hxx⟩ : ∃ x, x = cutI S.G a b := ⟨_, rfl⟩
      rw [← hxx] at hc hx
      have Hdel := Lib.hid hdel
      have HC := Lib.hid hc
      clear hp hk hdel hc hxx
      go_enter Try.func28, Try.ntmps28
      go_wp2_with fail
      refine HP.out.mono ?_
      rintro e w1 ⟨rfl, rfl⟩
      go_wp2_with fail
      refine HC.out.mono ?_
      rintro e w2 ⟨rfl, hf2⟩
      have Hf2 := Lib.hid hf2
      clear hf2
      go_wp2_with fail
      go_ret
      exact ⟨by rw [Hdel.out] <;> rfl, by rw [Hdel.out]; exact Hr0.out.keep Hf2.out, fr_none Hf2.out⟩
    · have hdel : rCut S a b = (0, ⟨S.N, S.L.filter (leftB (S.G ++ [(a, b)])), S.G ++ [(a, b)]⟩) := by simp [rCut, hk, hx]; rfl
      obtain ⟨x, hxx⟩ : ∃ x, x = cutI S.G a b := ⟨_, rfl⟩
      rw [← hxx] at hc hx
      have Hdel := Lib.hid hdel
      have HC := Lib.hid hc
      clear hp hk hdel hc hxx
      go_enter Try.func28, Try.ntmps28
      go_wp2_with fail
      refine HP.out.mono ?_
      rintro e w1 ⟨rfl, rfl⟩
      go_wp2_with fail
      refine HC.out.mono ?_
      rintro e w3 ⟨rfl, hf3⟩
      have d2 := hf3.cell c2 (fun h => h)
      have H3 := Lib.hid (H.out.fr hf3 (fun _ _ h => h))
      have Hf3 := Lib.hid hf3
      have Hrow3 := Lib.hid (H3.out.rg.fr ((Fr.refl None' w3).alloc (.cells #[.int .i64 a, .int .i64 b] 57)) (fun _ _ h => h))
      have Hrd : Hid (ReadsAs (w3.alloc (.cells #[.int .i64 a, .int .i64 b] 57)) (some ⟨w3.heap.size, 0, none⟩) [.int .i64 a, .int .i64 b]) := Lib.hid (reads_row (heap_alloc_new w3 _))
      have Hone : Hid (∀ u ∈ [Value.int .i64 a, .int .i64 b], u.oneCell' = true) := Lib.hid (by intro u hu; simp at hu; rcases hu with rfl | rfl <;> rfl)
      clear hf3
      go_wp2_with (at_builtin; refine wpList_append_row _ rfl _ _ 62 57 rfl (.agg #[.int .i64 0, .int .i64 0]) 2 16 Try.underlying62 info57 rfl (by decide) vG (S.G.flatMap lcells) rfl Hrow3.out (some ⟨w3.heap.size, 0, none⟩) 1 1 [.int .i64 a, .int .i64 b] rfl rfl Hrd.out Hone.out ?h4 ?h5 ?_)
      case h4 => rw [flat_length _ 2 lcells_len]; simp; omega
      case h5 => rw [flat_length _ 2 lcells_len]; show (S.G.length * 2 + 2) / 2 * 16 ≤ _; omega
      intro v6 w6 hr6 hg6 hb6
      obtain ⟨A6, n6, c6, rfl, _⟩ := hr6.form
      have hf6 : Fr (fun k => rowBlk vG = some k) w3 w6 := ((Fr.refl _ w3).alloc _).grown hg6 (fun j hj => .inl hj)
      have hg3 : w6.heap[g]? = some (.cells #[.int .i64 S.N, vL, vG] 64) := hf6.heap H3.out.obj (fun e => (H3.out.og g e).2.1 rfl)
      obtain ⟨g0, g1, g2, gz⟩ := three_cells hg3
      have hput := H3.out.putG (G' := S.G ++ [(a, b)]) hf6 (by rw [List.flatMap_append]; exact hr6) (fun k hk => by
        rcases hb6 with h | h
        · rw [h] at hk; exact .inl hk
        · rw [h] at hk; cases hk; exact .inr (by omega)) (by simp; omega)
      have Hput := Lib.hid hput
      clear hr6 hg6 hb6 hf6 hg3 hput
      go_wp2_with fail
      generalize hw7 : w6.setCell ⟨g, 2, none⟩ (.slice A6 n6 c6) = w7 at *
      clear hw7 g0 g1 g2 gz
      obtain ⟨⟨vL', vG', h7⟩, hf7⟩ := Hput.out
      obtain ⟨A, n, cap, rfl, hn⟩ := h7.rdM.len
      obtain ⟨k0, k1, k2, kz⟩ := h7.cells
      have hn1 : n ≤ 1000 := by have := h7.bl; omega
      have H7 := Lib.hid h7
      have Hn := Lib.hid hn
      have Hf7 := Lib.hid hf7
      clear h7 hn hf7 Hput
      simp only at Hn
      go_loopw [7, 8] (fun v i wr => ∃ k : Nat, k ≤ n ∧ i = .int .i64 k ∧ CutRel w7 S (S.G ++ [(a, b)]) k v wr) (fun _ i _ => n - (intOf i).toNat)
      case atStart => exact ⟨0, Nat.zero_le _, rfl, Row.nil _ _ _, fun j hj => by simp [rowBlk] at hj, Fr.refl _ _⟩
      case round =>
        obtain ⟨k, hk, rfl, hrow, hown, hf⟩ := hrel
        have e1 := hf.cell k1 (fun h => h)
        have Hrow := Lib.hid hrow
        have Hown := Lib.hid hown
        have Hf := Lib.hid hf
        by_cases hlt : k < n
        · obtain ⟨⟨ma, mb, mt⟩, hp⟩ : ∃ p, S.L[k]? = some p := ⟨_, List.getElem?_eq_getElem (by rw [← Hn.out]; exact hlt)⟩
          obtain ⟨gl, off, rfl, hgl, f0, f1, f2⟩ := RdM.get (H7.out.rdM.fr0 hf) hp
          have hki : (k : Int) < (n : Int) := by omega
          simp only at f0 f1 f2
          have hc8 := rcut_any (w := wr.drew) (RefIs.fr ⟨_, _, H7.out⟩ hf.drew (fun _ _ h => h)) ma mb
          obtain ⟨y, hy⟩ : ∃ y, y = cutI (S.G ++ [(a, b)]) ma mb := ⟨_, rfl⟩
          simp only at hc8
          rw [← hy] at hc8
          have HC8 := Lib.hid hc8
          have Hp := Lib.hid hp
          have Hy := Lib.hid hy
          clear hp hf hrow hown hk hc8 hy
          go_wp2_with fail
          go_region_held3 (fun W => W.cell? ⟨g, 1, none⟩ = some (.slice (some ⟨gl, off, none⟩) n cap) ∧ W.cell? ⟨gl, off + k * 3, none⟩ = some (.int .i64 ma) ∧ W.cell? ⟨gl, off + k * 3 + 1, none⟩ = some (.int .i64 mb))
            (first | exact ⟨e1, f0, f1⟩ | exact ⟨q0, q1, q2⟩)
            (first | (go_at_call 34; refine HC8.out.mono ?_
                      rintro e w9 ⟨rfl, hf9⟩
                      have q0 := hf9.cell (show wr.drew.cell? _ = _ from e1) (fun h => h)
                      have q1 := hf9.cell (show wr.drew.cell? _ = _ from f0) (fun h => h)
                      have q2 := hf9.cell (show wr.drew.cell? _ = _ from f1) (fun h => h)
                      have q3 := hf9.cell (show wr.drew.cell? _ = _ from f2) (fun h => h)
                      have Hf9 := Lib.hid hf9
                      clear hf9))
          have hfr9 := Hf.out.drew.trans0 Hf9.out
          have Hfr9 := Lib.hid hfr9
          clear hfr9
          have htk : (S.L.take (k + 1)).filter (leftB (S.G ++ [(a, b)])) = (S.L.take k).filter (leftB (S.G ++ [(a, b)])) ++ if y < 0 then [⟨ma, mb, mt⟩] else [] := by
            rw [List.take_add_one, Hp.out, List.filter_append]
            simp only [Option.toList_some, List.filter_cons, List.filter_nil, leftB, ← Hy.out, decide_eq_true_eq]
          have Htk := Lib.hid htk
          have Hrow9 := Lib.hid (Hrow.out.fr (Fr.trans0 (Fr.drew (Fr.refl None' wr)) Hf9.out) (fun _ _ h => h))
          clear htk
          by_cases hy0 : y < 0
          · have htk2 := Htk.out
            rw [if_pos hy0] at htk2
            have Htk2 := Lib.hid htk2
            have Hrowa := Lib.hid (Hrow9.out.fr ((Fr.refl None' w9).alloc (.cells #[.int .i64 ma, .int .i64 mb, .string mt] 67)) (fun _ _ h => h))
            have Hrd9 : Hid (ReadsAs (w9.alloc (.cells #[.int .i64 ma, .int .i64 mb, .string mt] 67)) (some ⟨w9.heap.size, 0, none⟩) [.int .i64 ma, .int .i64 mb, .string mt]) := Lib.hid (reads_row (heap_alloc_new w9 _))
            have Hone9 : Hid (∀ u ∈ [Value.int .i64 ma, .int .i64 mb, .string mt], u.oneCell' = true) := Lib.hid (by intro u hu; simp at hu; rcases hu with rfl | rfl | rfl <;> rfl)
            have hlen9 := filter_len S.L (leftB (S.G ++ [(a, b)])) k
            clear htk2
            go_wp2_with (at_builtin; refine wpList_append_row _ rfl _ _ 61 67 rfl (.agg #[.int .i64 0, .int .i64 0, .string ⟨#[]⟩]) 3 32 Try.underlying61 info67 rfl (by decide) u7 (((S.L.take k).filter (leftB (S.G ++ [(a, b)]))).flatMap Msg.cells) rfl Hrowa.out (some ⟨w9.heap.size, 0, none⟩) 1 1 [.int .i64 ma, .int .i64 mb, .string mt] rfl rfl Hrd9.out Hone9.out ?h4 ?h5 ?_)
            case h4 => rw [flat_length _ 3 Msg.cells_len]; simp; omega
            case h5 => rw [flat_length _ 3 Msg.cells_len]; show (((S.L.take k).filter (leftB (S.G ++ [(a, b)]))).length * 3 + 3) / 3 * 32 ≤ _; omega
            intro va wa hra hga hba
            have hrb : Row wa 3 va (((S.L.take (k + 1)).filter (leftB (S.G ++ [(a, b)]))).flatMap Msg.cells) := by rw [Htk2.out, List.flatMap_append]; exact hra
            have hfa : Fr None' w7 wa := (Hfr9.out.alloc _).grown hga (fun j hj => .inr (Hown.out j hj))
            have hoa : ∀ j, rowBlk va = some j → w7.heap.size ≤ j := fun j hj => by
              rcases hba with h | h
              · rw [h] at hj; exact Hown.out j hj
              · rw [h] at hj; cases hj; have := Hfr9.out.size; omega
            have Hrel : Hid (CutRel w7 S (S.G ++ [(a, b)]) (k + 1) va wa) := Lib.hid ⟨hrb, hoa, hfa⟩
            clear hra hga hba hrb hfa hoa
            go_wp2_with fail
            all_goals exact ⟨⟨k + 1, by omega, by go_num, Hrel.out⟩, by simp [intOf]; omega⟩
          · have htk2 := Htk.out
            rw [if_neg hy0, List.append_nil] at htk2
            have Hrel : Hid (CutRel w7 S (S.G ++ [(a, b)]) (k + 1) u7 w9) := Lib.hid ⟨by rw [htk2]; exact Hrow9.out, Hown.out, Hfr9.out⟩
            clear htk2
            go_wp2_with fail
            all_goals exact ⟨⟨k + 1, by omega, by go_num, Hrel.out⟩, by simp [intOf]; omega⟩
        · have hki : ¬ (k : Int) < (n : Int) := by omega
          rw [List.take_of_length_le (by rw [← Hn.out]; omega)] at hrow
          obtain ⟨Al, nl, cl, rfl, _⟩ := hrow.form
          obtain ⟨m0, m1, m2, mz⟩ := three_cells (hf.heap H7.out.obj (fun h => h))
          have hput := H7.out.putL (L' := S.L.filter (leftB (S.G ++ [(a, b)]))) (hf.mono (fun _ _ h => h.elim)) hrow (fun j hj => .inr (hown j hj)) (by have := H7.out.bl; have := List.length_filter_le (leftB (S.G ++ [(a, b)])) S.L; simp only at *; omega)
          have Hput := Lib.hid hput
          clear hrow hown hf hput
          go_wp2_with fail
          go_ret
          have hs3 := Hf3.out.size
          have hs7 := Hf7.out.size
          refine ⟨by rw [Hdel.out] <;> rfl, ?_, ?_⟩
          · rw [Hdel.out]
            refine Hput.out.1.mono (fun j hj => ?_)
            have hs9 := Hput.out.2.size
            rcases hj with (hj | hj) | hj
            · exact .inl hj
            · exact .inr ⟨by omega, by omega⟩
            · exact .inr ⟨by omega, hj.2⟩
          · refine ((fr_none Hf3.out).trans Hf7.out (fun _ _ h => h)).trans Hput.out.2 (fun i hi h => ?_)
            rcases h with h | h
            · exact h
            · omega
end Go.Proofs.Ytdgcimjpggjnjaa

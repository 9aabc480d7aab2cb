/- Package escrow: Give. -/
import Derived.Test.YtdjaofkbgkifkaaE7
set_option linter.unusedVariables false
set_option linter.unusedSimpArgs false
namespace Go.Proofs.Ytdjaofkbgkifkaa
open Go.RowKit

theorem wrap_succ (n : Nat) (h : n ≤ 1000000000) : IntKind.i64.wrap ((n : Int) + 1) = (n : Int) + 1 := by rw [IntKind.wrap_i64]; omega
theorem wrap_succ' (n : Nat) (h : n ≤ 1000000000) : wrap64 ((n : Int) + 1) = (n : Int) + 1 := by unfold wrap64; omega
theorem icells_one (l : List Int) : ∀ u ∈ l.flatMap icell, u.oneCell' = true := ints_one l
theorem EM.tr_append (m : EM) (all : List Int) (k : List Int) (h : m.l ≤ all.length) : m.tr (all ++ k) = m.tr all := by
  unfold EM.tr
  rw [List.take_append_of_le_length h]
theorem RdI.keep' {ρ ρ' : Nat → Role} {w w' : World} {v : Value} {xs : List Int} (h : RdI ρ w v xs) (hs : w.heap.size ≤ w'.heap.size) (hk : ∀ k, k < w.heap.size → ρ k = .imm → w'.heap[k]? = w.heap[k]?) (hρ : ∀ k, k < w.heap.size → ρ k = .imm → ρ' k = .imm) : RdI ρ' w' v xs := by
  obtain ⟨A, n, cap, rfl, hn, h0⟩ := h
  refine ⟨A, n, cap, rfl, hn, fun hp => ?_⟩
  obtain ⟨g, off, rfl, hi, hl, hc⟩ := h0 hp
  exact ⟨g, off, rfl, hρ g hl hi, Nat.lt_of_lt_of_le hl hs, fun j x hj => (World.cell?_of_block (hk g hl hi)).trans (hc j x hj)⟩
/-- A transfer more on a line. -/
theorem give_end {t : Nat} {w w1 w3 w4 : World} {F : Nat → Prop} {ρ : Nat → Role} {g : Nat} {S : ES} {vA : Value} {mb : Nat} {L : List WE} {lk : Nat} {lb : Int → Int → Nat} {vT vM : Int → Int → Value} {mz : Int → Int → List (Value × EM)} {k : Int} {v0 v4 : Value}
    (h : EscAt w1 ρ g S vA mb L lk lb vT vM mz) (hF : ∀ k, ρ k ≠ .other → F k) (hf1 : Fr F w w1) (hs1 : w1.heap.size = w.heap.size) (a b : Int) (hp : pairB S.acc.length a b = true) (hok : LineOK t (S.ln a b) (S.ln b a)) (hv : vT a b = v0) (hf3 : Fr None' w1 w3)
    (hr4 : Row w4 1 v4 (((S.ln a b).all.drop (S.ln a b).conf).flatMap icell ++ [k].flatMap icell)) (hg4 : w3.grownBy w4 (rowBlk v0)) (hb4 : rowBlk v4 = rowBlk v0 ∨ rowBlk v4 = some w3.heap.size)
    (hl4 : w4.heap[lb a b]? = some (.cells #[v0, .int .i64 ((S.ln a b).all.length : Int), .int .i64 ((S.ln a b).rcv : Int), vM a b] 109)) :
    EPost w F g (.int .i64 0) (S.putL a b { S.ln a b with all := (S.ln a b).all ++ [k] }) (.returned (.int .i64 0)) ((w4.setCell ⟨lb a b, 0, none⟩ v4).setCell ⟨lb a b, 1, none⟩ (.int .i64 (((S.ln a b).all.length : Int) + 1))) := by
  have hw4 := hr4
  obtain ⟨w5, hw5⟩ : ∃ w5, w5 = (w4.setCell ⟨lb a b, 0, none⟩ v4).setCell ⟨lb a b, 1, none⟩ (.int .i64 (((S.ln a b).all.length : Int) + 1)) := ⟨_, rfl⟩
  rw [← hw5]
  have hT : ∀ k, rowBlk v0 = some k → ρ k = .tr a b := by rw [← hv]; exact h.rt a b hp
  have hL := h.rl a b hp
  have hFl : F (lb a b) := hF _ (by rw [hL]; simp)
  have s5 : w5.heap.size = w4.heap.size := by rw [hw5, setCell_size, setCell_size]
  have f4 : Fr (fun k => ρ k = .tr a b) w1 w4 := (hf3.mono (fun _ _ h => h.elim)).grown hg4 (fun k hk => .inl (hT k hk))
  have f5 : Fr (fun k => ρ k = .tr a b ∨ k = lb a b) w1 w5 := by
    rw [hw5]
    exact ((f4.mono (fun _ _ h => .inl h)).setCell (p := ⟨lb a b, 0, none⟩) (.inl (.inr rfl)) _).setCell (p := ⟨lb a b, 1, none⟩) (.inl (.inr rfl)) _
  have hl5 : w5.heap[lb a b]? = some (.cells #[v4, .int .i64 (((S.ln a b).all.length : Int) + 1), .int .i64 ((S.ln a b).rcv : Int), vM a b] 109) := by
    rw [hw5]
    exact heap_setCell_same _ (lb a b) 1 _ 109 _ (heap_setCell_same w4 (lb a b) 0 _ 109 _ hl4)
  obtain ⟨ρ', hρ⟩ : ∃ ρ' : Nat → Role, ρ' = fun k => if k < w1.heap.size then ρ k else if k < w5.heap.size then .tr a b else .other := ⟨_, rfl⟩
  have r1 : ∀ k, k < w1.heap.size → ρ' k = ρ k := fun k hk => by rw [hρ]; simp only [if_pos hk]
  have E1 := h.role (ρ' := ρ') (fun k hk _ => r1 k hk)
  have hb4' : ∀ k, rowBlk v4 = some k → ρ' k = .tr a b := by
    intro k hk
    rcases hb4 with e | e
    · rw [e] at hk
      have h1 : k < w1.heap.size := by have := h.tr a b hp; rw [hv] at this; exact this.lt hk
      rw [r1 k h1]; exact hT k hk
    · have h1 := hr4.lt hk
      rw [e] at hk; cases hk
      have h2 := hf3.size
      rw [hρ]
      simp only [if_neg (show ¬ w3.heap.size < w1.heap.size by omega), if_pos (show w3.heap.size < w5.heap.size by rw [s5]; exact h1)]
  have hlne : ∀ k, rowBlk v4 = some k → k ≠ lb a b := by
    intro k hk e
    have h1 := hb4' k hk
    rw [e, E1.rl a b hp] at h1
    cases h1
  have E2 := E1.putLine (w' := w5) (l := { S.ln a b with all := (S.ln a b).all ++ [k] }) (t' := v4) (M' := vM a b) (z' := mz a b) hp (by simpa using hl5) ?_ ?_ ?_ ?_ f5.size ?_ hb4' (E1.rs a b hp)
  · refine ⟨rfl, ⟨ρ', _, _, _, _, _, _, _, _, E2, fun j hj => ?_⟩, ?_⟩
    · rw [hρ] at hj
      simp only [] at hj
      split at hj
      · exact .inl (hF j hj)
      · split at hj
        · rename_i h1 h2; exact .inr ⟨by omega, h2⟩
        · exact absurd rfl hj
    · exact hf1.trans f5 (fun i hi e => by
        rcases e with e | e
        · exact hF i (by rw [e]; simp)
        · rw [e]; exact hFl)
  · show Row w5 1 v4 ((((S.ln a b).all ++ [k]).drop (S.ln a b).conf).flatMap icell)
    rw [List.drop_append_of_le_length (by have := hok.cr; have := hok.ra; omega), List.flatMap_append]
    refine hr4.kept (fun k hk => ?_)
    rw [hw5, setCell_other (hlne k hk), setCell_other (hlne k hk)]
  · have := (h.ms a b hp).fr f5 (fun k hk e => by
      have h1 := h.rs a b hp k hk
      rcases e with e | e
      · rw [e] at h1; cases h1
      · rw [e, hL] at h1; cases h1)
    exact this
  · exact h.mq a b hp
  · intro q hq
    have hm := hok.mm q.2 (by rw [← h.mq a b hp]; exact List.mem_map.2 ⟨q, hq, rfl⟩)
    rw [EM.tr_append _ _ _ hm.2.2.1]
    exact (h.im a b hp q hq).keep' f5.size (fun j hj hi => f5.block j hj (fun e => by
      rcases e with e | e
      · rw [e] at hi; cases hi
      · rw [e, hL] at hi; cases hi)) (fun j hj hi => by rw [r1 j hj]; exact hi)
  · intro j hj h1 h2 h3 h4
    rw [r1 j hj] at h1 h2
    exact f5.block j hj (fun e => by
      rcases e with e | e
      · exact h2 e
      · rw [e] at h1; exact h1 hL)
set_option maxHeartbeats 4000000 in
set_option maxRecDepth 100000 in
theorem give_do {U : Int} {t : Nat} {w : World} {F : Nat → Prop} {ρ : Nat → Role} {g : Nat} {S : ES} {vA : Value} {mb : Nat} {L : List WE} {lk : Nat} {lb : Int → Int → Nat} {vT vM : Int → Int → Value} {mz : Int → Int → List (Value × EM)}
    (h : EscAt w ρ g S vA mb L lk lb vT vM mz) (hF : ∀ k, ρ k ≠ .other → F k) (hU : U ≤ 1000000000) (hI : Inv U t S) (ht : t ≤ 1000000) (a b k : Int) (hp : pairB S.acc.length a b = true) (hk : 1 ≤ k) (hu : k ≤ (S.ac a).u) (hq : ¬ (S.ln a b).conf + 100 ≤ (S.ln a b).all.length) :
    Calls Try.prog 27 #[.pointer (some ⟨g, 0, none⟩), .int .i64 a, .int .i64 b, .int .i64 k] w (EPost w F g (.int .i64 0) ((S.putA a ⟨(S.ac a).u - k, (S.ac a).s, (S.ac a).r⟩).putL a b { S.ln a b with all := (S.ln a b).all ++ [k] })) := by
  have H := line_ok h a b
  rw [hp] at H
  obtain ⟨c0, _⟩ := h.cells
  have ha := pairB_left hp
  have hac := ES.ac_get ha
  obtain ⟨l0, l1, l2, l3, lf⟩ := h.lcells hp
  obtain ⟨A, cap, hv⟩ := tr_form (h.tr a b hp)
  obtain ⟨r, y, rfl, hy⟩ := isB_get ha
  have hye : S.ac (r : Int) = y := by simpa [hy] using hac.symm
  obtain ⟨ga, off, acap, rfl, hbk, u0, u1, u2, ufr⟩ := acc_get h.acc (by have := hI.sh.n8; omega) hy
  have hr : r < S.acc.length := (List.getElem?_eq_some_iff.1 hy).1
  have hbd := hI.bound ha
  have hok := hI.sh.ok hp
  rw [hye] at hu hbd
  rw [hye]
  have hk0 : ¬ k < 1 := by omega
  have i0 : ¬ (r : Int) < 0 := by omega
  have i1 : (r : Int) < S.acc.length := by omega
  have hu0 : ¬ y.u < k := by omega
  have hq0 : ¬ (100 : Int) ≤ (((S.ln r b).all.length - (S.ln r b).conf : Nat) : Int) := by omega
  have hFa := h.fr_acc hbk hF
  have hFl : F (lb r b) := hF _ (by rw [h.rl r b hp]; simp)
  have hne : lb r b ≠ ga := by
    intro e
    have h1 := h.rl r b hp
    rw [e, h.ra ga hbk] at h1
    cases h1
  have hTne : rowBlk (vT r b) ≠ some (lb r b) := by
    intro e
    have h1 := h.rt r b hp _ e
    rw [h.rl r b hp] at h1
    cases h1
  -- behind the account's store
  obtain ⟨w1, hw1⟩ : ∃ w1, w1 = w.setCell ⟨ga, off + r * 3, none⟩ (.int .i64 (y.u - k)) := ⟨_, rfl⟩
  have f1 : Fr F w w1 := by rw [hw1]; exact (Fr.refl F w).setCell (.inl hFa) _
  have E1 : EscAt w1 ρ g (S.putA r ⟨y.u - k, y.s, y.r⟩) (.slice (some ⟨ga, off, none⟩) S.acc.length acap) mb L lk lb vT vM mz := by
    rw [hw1]; exact h.put1 (x' := ⟨y.u - k, y.s, y.r⟩) hy 0 (by decide) _ rfl hbk
  have hp1 : pairB (S.putA r ⟨y.u - k, y.s, y.r⟩).acc.length r b = true := by rw [ES.putA_len]; exact hp
  have hline1 := E1.line r b hp1
  have hrow1 := E1.tr r b hp1
  simp only [ES.putA_ln] at hline1 hrow1
  rw [hv] at hrow1 hTne l0 hline1
  have hlt1 : lb r b < w1.heap.size := (Array.getElem?_eq_some_iff.1 hline1).1
  -- the world of the append
  obtain ⟨w3, hw3⟩ : ∃ w3, w3 = (w1.alloc (.cells #[.int .i64 k] 3)).drew := ⟨_, rfl⟩
  have f3 : Fr None' w1 w3 := by rw [hw3]; exact ((Fr.refl None' w1).alloc _).drew
  have hrow3 := hrow1.fr f3 (fun _ _ h => h)
  have hrd3 : ReadsAs w3 (some ⟨w1.heap.size, 0, none⟩) ([k].flatMap icell) := by
    rw [hw3]
    exact reads_blk (cs := [.int .i64 k]) (show (w1.alloc (.cells #[.int .i64 k] 3)).heap[w1.heap.size]? = _ from heap_alloc_new _ _)
  have hlen : (((S.ln r b).all.drop (S.ln r b).conf).flatMap icell).length + ([k].flatMap icell).length ≤ 9007199254740992 := by
    rw [flat_length _ 1 icell_len, flat_length _ 1 icell_len, List.length_drop]; have := hok.tm; simp; omega
  have hby : (((((S.ln r b).all.drop (S.ln r b).conf).flatMap icell).length + ([k].flatMap icell).length) / 1) * 8 ≤ 140737488355328 := by
    rw [flat_length _ 1 icell_len, flat_length _ 1 icell_len, List.length_drop]; have := hok.tm; simp; omega
  have hline3 := f3.heap hline1 (fun h => h)
  obtain ⟨m0, m1, _, _, mf⟩ := four_cells hline1
  obtain ⟨o0, o1, _, _, of⟩ := four_cells hline3
  have hw64 : wrap64 (y.u - k) = y.u - k := w64 (by omega) (by omega)
  have hwl := wrap_succ (S.ln r b).all.length (by have := hok.tm; omega)
  have hwl' := wrap_succ' (S.ln r b).all.length (by have := hok.tm; omega)
  have HL := Lib.hid (show Calls Try.prog 71 #[.pointer (some ⟨g, 0, none⟩), .int .i64 r, .int .i64 b] w fun e w' => e = .returned (.pointer (some ⟨lb r b, 0, none⟩)) ∧ w' = w from H)
  have HE1 := Lib.hid E1
  have Hf1 := Lib.hid f1
  have Hf3 := Lib.hid f3
  have Hr3 := Lib.hid hrow3
  have Hrd3 := Lib.hid hrd3
  have Hone := Lib.hid (icells_one [k])
  have Hlen := Lib.hid hlen
  have Hby := Lib.hid hby
  have Hline3 := Lib.hid hline3
  have Hok := Lib.hid hok
  have Hw3 := Lib.hid hw3
  have HTne := Lib.hid hTne
  have Hp1 := Lib.hid hp1
  have HF := Lib.hid hF
  have HFl := Lib.hid hFl
  have Hmq := Lib.hid (h.mq r b hp)
  have Hv := Lib.hid hv
  have Hw1 := Lib.hid hw1
  have Hsz := Lib.hid (show w1.heap.size = w.heap.size by rw [hw1]; exact setCell_size _ _ _)
  clear H h hI hp hk ha hac hye hr hbd hok hFa hFl f1 E1 hp1 hline1 hrow1 f3 hrow3 hrd3 hlen hby hline3 hw3 hu hq hTne hF hv hU ht
  subst hw1
  go_enter Try.func27, Try.ntmps27
  go_wp2_with fail
  refine HL.out.mono ?_
  rintro e w' ⟨rfl, rfl⟩
  go_wp2_with fail
  clear l0 l1 l2 l3 lf c0 u0 u1 u2 ufr HL
  generalize w'.setCell ⟨ga, off + r * 3, none⟩ (.int .i64 (y.u - k)) = w1 at *
  obtain rfl := Hw3.out
  go_region_law (refine step_append_row ((w1.alloc (.cells #[.int .i64 k] 3)).drew) rfl (.tmp 56) (.tmp 58) 74 3 rfl (.int .i64 0) 1 8 Try.underlying74 info3 rfl (by decide) (.slice A ((S.ln r b).all.length - (S.ln r b).conf) cap) (((S.ln r b).all.drop (S.ln r b).conf).flatMap icell) rfl Hr3.out (some ⟨w1.heap.size, 0, none⟩) 1 1 ([k].flatMap icell) rfl rfl Hrd3.out Hone.out Hlen.out Hby.out ?_
                 intro v4 w4 hr4 hg4 hb4
                 obtain ⟨A4, n4, cap4, rfl, hn4⟩ := hr4.form
                 have hl4 := (hg4.block (lb r b) (Array.getElem?_eq_some_iff.1 Hline3.out).1 (fun e => HTne.out e.symm)).trans Hline3.out
                 obtain ⟨q0, q1, _, _, qf⟩ := four_cells hl4
                 have Hl4 := Lib.hid hl4
                 have Hr4 := Lib.hid hr4
                 have Hg4 := Lib.hid hg4
                 have Hb4 := Lib.hid hb4
                 clear hl4 hr4 hg4 hb4 hn4)
  all_goals (
    go_wp2_with fail
    go_ret
    try rw [hwl]
    exact give_end (S := S.putA r ⟨y.u - k, y.s, y.r⟩) HE1.out HF.out Hf1.out Hsz.out r b Hp1.out Hok.out Hv.out Hf3.out Hr4.out Hg4.out Hb4.out Hl4.out)
end Go.Proofs.Ytdjaofkbgkifkaa

/- Package escrow: Send. -/
import Derived.Test.YtdjaofkbgkifkaaE9
set_option linter.unusedVariables false
set_option linter.unusedSimpArgs false
namespace Go.Proofs.Ytdjaofkbgkifkaa
open Go.RowKit

theorem line_at {w : World} {ρ : Nat → Role} {g : Nat} {S : ES} {vA : Value} {mb : Nat} {L : List WE} {lk : Nat} {lb : Int → Int → Nat} {vT vM : Int → Int → Value} {mz : Int → Int → List (Value × EM)}
    (h : EscAt w ρ g S vA mb L lk lb vT vM mz) (a b : Int) (hp : pairB S.acc.length a b = true) : Calls Try.prog 71 #[.pointer (some ⟨g, 0, none⟩), .int .i64 a, .int .i64 b] w fun e w' => e = .returned (.pointer (some ⟨lb a b, 0, none⟩)) ∧ w' = w := by
  have H := line_ok h a b
  rw [hp] at H
  exact H
theorem line_none {w : World} {ρ : Nat → Role} {g : Nat} {S : ES} {vA : Value} {mb : Nat} {L : List WE} {lk : Nat} {lb : Int → Int → Nat} {vT vM : Int → Int → Value} {mz : Int → Int → List (Value × EM)}
    (h : EscAt w ρ g S vA mb L lk lb vT vM mz) (a b : Int) (hp : pairB S.acc.length a b = false) : Calls Try.prog 71 #[.pointer (some ⟨g, 0, none⟩), .int .i64 a, .int .i64 b] w fun e w' => e = .returned (.pointer none) ∧ w' = w := by
  have H := line_ok h a b
  rw [hp] at H
  exact H
theorem send_arg0 {w : World} {ρ : Nat → Role} {g : Nat} {S : ES} {vA : Value} {mb : Nat} {L : List WE} {lk : Nat} {lb : Int → Int → Nat} {vT vM : Int → Int → Value} {mz : Int → Int → List (Value × EM)}
    (h : EscAt w ρ g S vA mb L lk lb vT vM mz) (a b : Int) (hp : pairB S.acc.length a b = false) : Calls Try.prog 28 #[.pointer (some ⟨g, 0, none⟩), .int .i64 a, .int .i64 b] w fun e w' => e = .returned (.int .i64 1) ∧ w' = w := by
  have H := Lib.hid (line_none h a b hp)
  clear h hp
  go_enter Try.func28, Try.ntmps28
  go_wp2_with fail
  refine H.out.mono ?_
  rintro e w' ⟨rfl, rfl⟩
  go_wp2_with fail
  go_ret
  exact ⟨rfl, rfl⟩
theorem send_full {w : World} {ρ : Nat → Role} {g : Nat} {S : ES} {vA : Value} {mb : Nat} {L : List WE} {lk : Nat} {lb : Int → Int → Nat} {vT vM : Int → Int → Value} {mz : Int → Int → List (Value × EM)}
    (h : EscAt w ρ g S vA mb L lk lb vT vM mz) (a b : Int) (hp : pairB S.acc.length a b = true) (hq : 100 ≤ (S.ln a b).ms.length) : Calls Try.prog 28 #[.pointer (some ⟨g, 0, none⟩), .int .i64 a, .int .i64 b] w fun e w' => e = .returned (.int .i64 28) ∧ w' = w := by
  have H := Lib.hid (line_at h a b hp)
  obtain ⟨l0, l1, l2, l3, lf⟩ := h.lcells hp
  obtain ⟨A, cap, hv⟩ := ms_form (h.ms a b hp) (h.mq a b hp)
  rw [hv] at l3
  have hq' : (100 : Int) ≤ ((S.ln a b).ms.length : Int) := by omega
  generalize (S.ln a b).ms.length = q at *
  clear h hp hv hq
  go_enter Try.func28, Try.ntmps28
  go_wp2_with fail
  refine H.out.mono ?_
  rintro e w' ⟨rfl, rfl⟩
  go_wp2_with fail
  go_ret
  exact ⟨rfl, rfl⟩
set_option maxHeartbeats 4000000 in
set_option maxRecDepth 100000 in
theorem send_do {U : Int} {t : Nat} {w : World} {F : Nat → Prop} {ρ : Nat → Role} {g : Nat} {S : ES} {vA : Value} {mb : Nat} {L : List WE} {lk : Nat} {lb : Int → Int → Nat} {vT vM : Int → Int → Value} {mz : Int → Int → List (Value × EM)}
    (h : EscAt w ρ g S vA mb L lk lb vT vM mz) (hF : ∀ k, ρ k ≠ .other → F k) (hI : Inv U t S) (a b : Int) (hp : pairB S.acc.length a b = true) (hq : ¬ 100 ≤ (S.ln a b).ms.length) :
    Calls Try.prog 28 #[.pointer (some ⟨g, 0, none⟩), .int .i64 a, .int .i64 b] w (EPost w F g (.int .i64 0) (S.putL a b { S.ln a b with ms := (S.ln a b).ms ++ [eMsg S a b] })) := by
  have hp' := pairB_swap hp
  have HL := Lib.hid (line_at h a b hp)
  have ha := pairB_left hp
  have hac := ES.ac_get ha
  obtain ⟨l0, l1, l2, l3, lf⟩ := h.lcells hp
  obtain ⟨_, _, b2, _, _⟩ := h.lcells hp'
  obtain ⟨c0, _⟩ := h.cells
  obtain ⟨A, cap, hv⟩ := ms_form (h.ms a b hp) (h.mq a b hp)
  rw [hv] at l3
  have hq' : ¬ (100 : Int) ≤ ((S.ln a b).ms.length : Int) := by omega
  obtain ⟨r, y, rfl, hy⟩ := isB_get ha
  have hye : S.ac (r : Int) = y := by simpa [hy] using hac.symm
  obtain ⟨ga, off, acap, rfl, hbk, u0, u1, u2, ufr⟩ := acc_get h.acc (by have := hI.sh.n8; omega) hy
  have hr : r < S.acc.length := (List.getElem?_eq_some_iff.1 hy).1
  have i0 : ¬ (r : Int) < 0 := by omega
  have i1 : (r : Int) < S.acc.length := by omega
  have hTne : rowBlk (vM r b) ≠ some (lb r b) := by
    intro e
    have h1 := h.rs r b hp _ e
    rw [h.rl r b hp] at h1
    cases h1
  have hTne2 : rowBlk (vM r b) ≠ some (lb b r) := by
    intro e
    have h1 := h.rs r b hp _ e
    rw [h.rl b r hp'] at h1
    cases h1
  have hne1 : lb b r ≠ lb r b := by
    intro e
    have h1 := h.rl b r hp'
    rw [e, h.rl r b hp] at h1
    cases h1
    exact pairB_ne hp rfl
  have hne2 : g ≠ lb r b := by
    intro e
    have h1 := h.rg
    rw [e, h.rl r b hp] at h1
    cases h1
  have hne3 : ga ≠ lb r b := by
    intro e
    have h1 := h.ra ga hbk
    rw [e, h.rl r b hp] at h1
    cases h1
  have hne4 : rowBlk (vM r b) ≠ some g := by
    intro e
    have h1 := h.rs r b hp _ e
    rw [h.rg] at h1
    cases h1
  have hne5 : rowBlk (vM r b) ≠ some ga := by
    intro e
    have h1 := h.rs r b hp _ e
    rw [h.ra ga hbk] at h1
    cases h1
  have hok := hI.sh.ok hp
  have hzlen : (mz r b).length ≤ 1000 := by rw [← List.length_map (f := (·.2)), h.mq r b hp]; have := hok.mq; omega
  have htlen : ((S.ln r b).all.drop (S.ln r b).conf).length ≤ 1000000 := by rw [List.length_drop]; have := hok.q; omega
  have Hh := Lib.hid h
  have HF := Lib.hid hF
  have Hp := Lib.hid hp
  have Hp' := Lib.hid hp'
  have Hy := Lib.hid hye
  have Hzl := Lib.hid hzlen
  have Htl := Lib.hid htlen
  have H0 := Lib.hid hTne
  have H0' := Lib.hid hTne2
  have H1 := Lib.hid hne1
  have H2 := Lib.hid hne2
  have H3 := Lib.hid hne3
  have H4 := Lib.hid hne4
  have H5 := Lib.hid hne5
  clear h hF hI hp hp' ha hac hye hq hv hr hTne hTne2 hne1 hne2 hne3 hne4 hne5 hok hzlen htlen hbk
  go_enter Try.func28, Try.ntmps28
  go_wp2_with fail
  refine HL.out.mono ?_
  rintro e w' ⟨rfl, rfl⟩
  go_wp2_with fail
  have d0 := (show w'.drew.cell? ⟨lb r b, 0, none⟩ = _ from l0)
  have d1 := (show w'.drew.cell? ⟨lb r b, 1, none⟩ = _ from l1)
  have d2 := (show w'.drew.cell? ⟨lb b r, 2, none⟩ = _ from b2)
  have d3 := (show w'.drew.cell? ⟨g, 0, none⟩ = _ from c0)
  have d4 := (show w'.drew.cell? ⟨ga, off + r * 3 + 2, none⟩ = _ from u2)
  have Hd := Lib.hid ((Fr.refl None' w').drew)
  go_region_held3 (fun W => W.cell? ⟨lb r b, 0, none⟩ = some (vT r b) ∧ W.cell? ⟨lb r b, 1, none⟩ = some (.int .i64 ((S.ln r b).all.length : Int)) ∧ W.cell? ⟨lb b r, 2, none⟩ = some (.int .i64 ((S.ln b r).rcv : Int)) ∧ W.cell? ⟨g, 0, none⟩ = some (.slice (some ⟨ga, off, none⟩) S.acc.length acap) ∧ W.cell? ⟨ga, off + r * 3 + 2, none⟩ = some (.bool y.r))
    (first | exact ⟨d0, d1, d2, d3, d4⟩ | exact ⟨p0, p1, p2, p3, p4⟩ | exact ⟨q0, q1, q2, q3, q4⟩)
    (first | (go_at_call 72; refine (put_ok HB.out HM.out Hzl.out A1 n1 c1 ⟨(S.ln r b).conf, (S.ln r b).all.length, (S.ln b r).rcv, y.r⟩ H0.out).mono ?_
              rintro e w3 ⟨rfl, v3, hr3, hb3, hl3, hf3⟩
              have q0 := (four_cells hl3).1
              have q1 := (four_cells hl3).2.1
              have q2 := hf3.cell p2 (by rintro (e | e); exact H1.out e; exact H0'.out e)
              have q3 := hf3.cell p3 (by rintro (e | e); exact H2.out e; exact H4.out e)
              have q4 := hf3.cell p4 (by rintro (e | e); exact H3.out e; exact H5.out e)
              have Hr3 := Lib.hid hr3
              have Hb3 := Lib.hid hb3
              have Hl3 := Lib.hid hl3
              have Hf3 := Lib.hid hf3
              clear hr3 hb3 hl3 hf3)
           | (go_at_call 71; refine (line_at HE1.out b r Hp'.out).mono ?_
              rintro e w2 ⟨rfl, rfl⟩)
           | (go_at_call 73; refine (clone_ints _ _ _ ((Hh.out.tr r b Hp.out).fr Hd.out (fun _ _ h => h)) Htl.out).mono ?_
              rintro e w1 ⟨v1, rfl, hr1, hb1, hf1⟩
              obtain ⟨A1, n1, c1, rfl, hn1⟩ := hr1.form
              have p0 := hf1.cell d0 (fun h => h)
              have p1 := hf1.cell d1 (fun h => h)
              have p2 := hf1.cell d2 (fun h => h)
              have p3 := hf1.cell d3 (fun h => h)
              have p4 := hf1.cell d4 (fun h => h)
              have HE1 := Lib.hid ((Hh.out.fr Hd.out (fun _ _ h => h)).fr hf1 (fun _ _ h => h))
              have HB := Lib.hid (HE1.out.line r b Hp.out)
              have HM := Lib.hid (HE1.out.ms r b Hp.out)
              have Hr1 := Lib.hid hr1
              have Hb1 := Lib.hid hb1
              have Hf1 := Lib.hid (Hd.out.trans0 hf1)
              clear hr1 hb1 hf1 hn1))
  go_wp2_with fail
  go_ret
  have em : eMsg S r b = ⟨(S.ln r b).conf, (S.ln r b).all.length, (S.ln b r).rcv, y.r⟩ := by simp only [eMsg, Hy.out]
  exact send_end Hh.out HF.out r b Hp.out Hf1.out Hr1.out Hb1.out (by rw [em]; exact Hr3.out) Hb3.out Hl3.out Hf3.out
theorem send_ok {U : Int} {t : Nat} {w : World} {F : Nat → Prop} {g : Nat} {S : ES} (h : EscIs w F g S) (hI : Inv U t S) (a b : Int) :
    Calls Try.prog 28 #[.pointer (some ⟨g, 0, none⟩), .int .i64 a, .int .i64 b] w (EPost w F g (.int .i64 (eSend S a b).1) (eSend S a b).2) := by
  have h0 := h
  obtain ⟨ρ, vA, mb, L, lk, lb, vT, vM, mz, h, hF⟩ := h
  by_cases h1 : pairB S.acc.length a b = false
  · have e : eSend S a b = (1, S) := by unfold eSend; rw [if_pos h1]
    rw [e]
    exact (send_arg0 h a b h1).mono fun _ _ he => EPost.same h0 he
  · have hp : pairB S.acc.length a b = true := by simpa using h1
    by_cases h2 : 100 ≤ (S.ln a b).ms.length
    · have e : eSend S a b = (28, S) := by unfold eSend; rw [if_neg h1, if_pos h2]
      rw [e]
      exact (send_full h a b hp h2).mono fun _ _ he => EPost.same h0 he
    · have e : eSend S a b = (0, S.putL a b { S.ln a b with ms := (S.ln a b).ms ++ [eMsg S a b] }) := by unfold eSend; rw [if_neg h1, if_neg h2]
      rw [e]
      exact send_do h hF hI a b hp h2
end Go.Proofs.Ytdjaofkbgkifkaa

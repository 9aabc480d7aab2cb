/- Package escrow: EscrowRevokes. -/
import Derived.Test.YtdjaofkbgkifkaaE25
set_option linter.unusedVariables false
set_option linter.unusedSimpArgs false
namespace Go.Proofs.Ytdjaofkbgkifkaa
open Go.RowKit

theorem revoke_eq {S : ES} {i : Int} (hb : isB S.acc.length i = true) : eRevoke S i = (0, S.putA i ⟨(S.ac i).u, (S.ac i).s, true⟩) := by
  unfold eRevoke; rw [if_neg (by rw [hb]; simp)]
theorem spend_revoked {S : ES} {i : Int} (hb : isB S.acc.length i = true) (hr : (S.ac i).r = true) : eSpend S i 1 = (22, S) := by
  unfold eSpend; rw [if_neg (by rw [hb]; simp), if_pos hr]
theorem return_one {S : ES} {i : Int} (hb : isB S.acc.length i = true) (hs : 1 ≤ (S.ac i).s) : eReturn S i 1 = (0, S.putA i ⟨(S.ac i).u + 1, (S.ac i).s - 1, (S.ac i).r⟩) ∧
    eHave (S.putA i ⟨(S.ac i).u + 1, (S.ac i).s - 1, (S.ac i).r⟩) i = eHave S i + 1 ∧ eSpent (S.putA i ⟨(S.ac i).u + 1, (S.ac i).s - 1, (S.ac i).r⟩) = eSpent S - 1 := by
  refine ⟨?_, ?_, ?_⟩
  · unfold eReturn; rw [if_neg (by rw [hb]; simp), if_neg (by omega)]
  · rw [eHave_ac (by rw [ES.putA_len]; exact hb), ES.putA_same hb, eHave_ac hb]
  · rw [(putA_units hb _).2.1]; simp only []; omega
theorem spend_ok1 {S : ES} {i : Int} (hb : isB S.acc.length i = true) (hr : ¬ (S.ac i).r = true) (hu : 0 < eHave S i) : eSpend S i 1 = (0, S.putA i ⟨(S.ac i).u - 1, (S.ac i).s + 1, (S.ac i).r⟩) := by
  rw [eHave_ac hb] at hu
  unfold eSpend; rw [if_neg (by rw [hb]; simp), if_neg hr, if_neg (by omega)]

set_option maxHeartbeats 4000000 in
theorem revokes_two (r : Nat) (hr : r ≤ 255) (u : Int) (hu : 0 ≤ u) (hu2 : u ≤ 65535) {v : Value} {l : List EA} {w : World} (hl : RdA w v l) (hok : OKA l) (a b : Nat) (ha : a ≤ 255) (hb : b ≤ 255) (hab : ¬ (a : Int) % ((1 + r % 4 : Nat) : Int) = (b : Int) % ((1 + r % 4 : Nat) : Int)) :
    Calls Try.prog 8 #[.int .u8 r, .int .u16 u, v, .int .u8 a, .int .u8 b] w fun e w' => e = .returned (.bool true) ∧ Fr None' w w' := by
  have HL := Lib.hid hl
  have HO := Lib.hid hok
  clear hl hok
  go_enter Try.func8, Try.ntmps8
  go_wp2_with fail
  refine (head_any w).mono ?_
  rintro e w1 ⟨rfl, hf1⟩
  have Hf1 := Lib.hid hf1
  clear hf1
  go_wp2_with fail
  refine (open_any r hr u hu hu2 (HL.out.fr Hf1.out) HO.out).mono ?_
  rintro e w2 ⟨g, rfl, hE⟩
  have hlen := eOpen_len r u l
  generalize eOpen r u l = S at *
  have hm4 : r % 4 < 4 := Nat.mod_lt _ (by decide)
  generalize hN : 1 + r % 4 = n at *
  have hn4 : n ≤ 4 := by omega
  have hn1 : 1 ≤ n := by omega
  clear hN hm4
  have hn0 : ¬ (n : Int) = 0 := by omega
  have H2 := Lib.hid hE
  have Hlen := Lib.hid hlen
  clear hE hlen
  go_wp2_with fail
  go_quiet (fail)
  have H3 := Lib.hid (H2.out.frame ((Fr.refl None' w2).drewN nq))
  clear H2
  generalize w2.drewN nq = w3 at *
  have hf0 : 0 ≤ (a : Int) % (n : Int) := Int.emod_nonneg _ hn0
  have hf1 : (a : Int) % (n : Int) < n := Int.emod_lt_of_pos _ (by omega)
  have ht0 : 0 ≤ (b : Int) % (n : Int) := Int.emod_nonneg _ hn0
  have ht1 : (b : Int) % (n : Int) < n := Int.emod_lt_of_pos _ (by omega)
  generalize (a : Int) % (n : Int) = f at *
  generalize (b : Int) % (n : Int) = t at *
  have hbf : isB S.acc.length f = true := by rw [Hlen.out]; simp only [isB, decide_eq_true_eq]; omega
  have hbt : isB S.acc.length t = true := by rw [Hlen.out]; simp only [isB, decide_eq_true_eq]; omega
  have hft : ¬ f = t := hab
  have hft2 : (f == t) = false := by simpa using hft
  obtain ⟨x0, hx0⟩ : ∃ x0, x0 = eHave S t := ⟨_, rfl⟩
  have Hx0 := Lib.hid hx0
  clear hx0
  go_wp2_with fail
  refine (s_have H3.out t).mono ?_
  rw [← Hx0.out]
  rintro e w4 ⟨rfl, h'⟩
  have H4 := Lib.hid h'
  clear h' H3
  by_cases hH : 0 < x0
  · by_cases hrv : (S.ac t).r = true
    · have E0 := Lib.hid (spend_revoked (S := S) hbt hrv)
      go_wp2_with fail
      refine (s_spend H4.out t 1 (by decide)).mono ?_
      rw [E0.out]
      rintro e w5 ⟨rfl, h'⟩
      have H5 := Lib.hid h'
      clear h' H4 E0
      go_wp2_with fail
      have hbf1 := hbf
      have hbt1 := hbt
      obtain ⟨S1, hS1⟩ : ∃ S1, S1 = S := ⟨_, rfl⟩
      rw [← hS1] at H5 hbf1 hbt1
      clear hS1
      obtain ⟨S2, hS2⟩ : ∃ S2, S2 = S1.putA f ⟨(S1.ac f).u, (S1.ac f).s, true⟩ := ⟨_, rfl⟩
      have e2 := revoke_eq hbf1
      rw [← hS2] at e2
      have hbf2 : isB S2.acc.length f = true := by rw [hS2, ES.putA_len]; exact hbf1
      have hbt2 : isB S2.acc.length t = true := by rw [hS2, ES.putA_len]; exact hbt1
      have hr2 : (S2.ac f).r = true := by rw [hS2, ES.putA_same hbf1]
      have e3 := spend_revoked hbf2 hr2
      have hs2 : (S2.ac t).s = (S1.ac t).s := by
        by_cases h : t = f
        · rw [h, hS2, ES.putA_same hbf1]
        · rw [hS2, ES.putA_other hf0 ht0 h]
      have E2 := Lib.hid e2
      have E3 := Lib.hid e3
      clear e2 e3 hS2
      refine (s_revoke H5.out f).mono ?_
      rw [E2.out]
      rintro e w6 ⟨rfl, h'⟩
      have H6 := Lib.hid h'
      clear h'
      go_wp2_with fail
      refine (s_spend H6.out f 1 (by decide)).mono ?_
      rw [E3.out]
      rintro e w7 ⟨rfl, h'⟩
      have H7 := Lib.hid h'
      clear h'
      go_wp2_with fail
      have hp : pairB S2.acc.length f t = true := by
        simp only [isB, decide_eq_true_eq] at hbf2 hbt2
        simp only [pairB, decide_eq_true_eq]
        exact ⟨hbf2.1, hbf2.2, hbt2.1, hbt2.2, hft⟩
      obtain ⟨k1, k2, k3, k4⟩ := told_all H7.out.inv hp
      have hp3 : pairB (eEmpty S2 f t).acc.length f t = true := by rw [eEmpty_len]; exact hp
      obtain ⟨k5, _, _⟩ := told_one (eEmpty_inv H7.out.inv f t) hp3 (eEmpty_ms hp)
      have hr3 : ((eEmpty S2 f t).ac f).r = true := by rw [(Rel.empty H7.out.inv f t).ac f hf0 hft]; exact hr2
      have hr4' := k3.rev hr3
      have hs4' := k2.s
      have hb4' : isB (eEmpty (eSend (eEmpty S2 f t) f t).2 f t).acc.length t = true := by rw [k2.len]; exact hbt2
      have K1 := Lib.hid k1
      have K5 := Lib.hid k5
      clear k1 k2 k3 k4 k5 hr3
      refine (s_empty H7.out (by decide) f t).mono ?_
      rintro e w8 ⟨rfl, h'⟩
      have H8 := Lib.hid h'
      clear h'
      go_wp2_with fail
      refine (s_send H8.out f t).mono ?_
      rw [K1.out]
      rintro e w8a ⟨rfl, h'⟩
      have H8a := Lib.hid h'
      clear h'
      go_wp2_with fail
      refine (s_deliver H8a.out (by decide) f t false false).mono ?_
      rw [K5.out]
      rintro e w8b ⟨rfl, h'⟩
      have H9 := Lib.hid h'
      clear h'
      go_wp2_with fail
      have hr4 := hr4'
      have hs4 := hs4'.trans hs2
      have hb4 := hb4'
      clear hr4' hs4' hb4'
      generalize eEmpty (eSend (eEmpty S2 f t) f t).2 f t = S4 at *
      have e5 := spend_revoked hb4 hr4
      have E5 := Lib.hid e5
      have hbd := H9.out.inv.bound hb4
      have hU9 := H9.out.hU
      have hun := le_units H9.out.inv.sh hb4
      have hsum := H9.out.inv.sum
      have hfl := eFly_nonneg H9.out.inv.sh
      have hv := eHave_ac hb4
      obtain ⟨x, hx⟩ : ∃ x, x = eHave S4 t := ⟨_, rfl⟩
      obtain ⟨y, hy⟩ : ∃ y, y = eSpent S4 := ⟨_, rfl⟩
      rw [← hv, ← hx] at hbd hun
      rw [← hy] at hun hsum
      have hw1 : Hid (wrap64 (x + 1) = x + 1) := Lib.hid (w64 (by omega) (by omega))
      have hw2 : Hid (wrap64 (y - 1) = y - 1) := Lib.hid (w64 (by omega) (by omega))
      have Hx := Lib.hid hx
      have Hy := Lib.hid hy
      clear hbd hU9 hun hsum hfl hv hx hy e5
      refine (s_have H9.out t).mono ?_
      rw [← Hx.out]
      rintro e w10 ⟨rfl, h'⟩
      have H10 := Lib.hid h'
      clear h'
      go_wp2_with fail
      refine (s_spent H10.out).mono ?_
      rw [← Hy.out]
      rintro e w11 ⟨rfl, h'⟩
      have H11 := Lib.hid h'
      clear h'
      go_wp2_with fail
      refine (s_spend H11.out t 1 (by decide)).mono ?_
      rw [E5.out]
      rintro e w12 ⟨rfl, h'⟩
      have H12 := Lib.hid h'
      clear h'
      go_wp2_with fail
      refine (s_spent H12.out).mono ?_
      rw [← Hy.out]
      rintro e w13 ⟨rfl, h'⟩
      have H13 := Lib.hid h'
      clear h'
      go_wp2_with fail
      go_ret
      exact ⟨rfl, Hf1.out.trans0 H13.out.fr⟩
    · have E0 := Lib.hid (spend_ok1 (S := S) hbt hrv (by rw [← Hx0.out]; exact hH))
      go_wp2_with fail
      refine (s_spend H4.out t 1 (by decide)).mono ?_
      rw [E0.out]
      rintro e w5 ⟨rfl, h'⟩
      obtain ⟨S1, hS1⟩ : ∃ S1, S1 = S.putA t ⟨(S.ac t).u - 1, (S.ac t).s + 1, (S.ac t).r⟩ := ⟨_, rfl⟩
      have hbf1 : isB S1.acc.length f = true := by rw [hS1, ES.putA_len]; exact hbf
      have hbt1 : isB S1.acc.length t = true := by rw [hS1, ES.putA_len]; exact hbt
      have hsp : 1 ≤ (S1.ac t).s := by rw [hS1, ES.putA_same hbt]; have := (H4.out.inv.bound hbt).2.1; simp only []; omega
      rw [← hS1] at h'
      have H5 := Lib.hid h'
      clear h' H4 E0 hS1
      go_wp2_with fail
      obtain ⟨S2, hS2⟩ : ∃ S2, S2 = S1.putA f ⟨(S1.ac f).u, (S1.ac f).s, true⟩ := ⟨_, rfl⟩
      have e2 := revoke_eq hbf1
      rw [← hS2] at e2
      have hbf2 : isB S2.acc.length f = true := by rw [hS2, ES.putA_len]; exact hbf1
      have hbt2 : isB S2.acc.length t = true := by rw [hS2, ES.putA_len]; exact hbt1
      have hr2 : (S2.ac f).r = true := by rw [hS2, ES.putA_same hbf1]
      have e3 := spend_revoked hbf2 hr2
      have hs2 : (S2.ac t).s = (S1.ac t).s := by
        by_cases h : t = f
        · rw [h, hS2, ES.putA_same hbf1]
        · rw [hS2, ES.putA_other hf0 ht0 h]
      have E2 := Lib.hid e2
      have E3 := Lib.hid e3
      clear e2 e3 hS2
      refine (s_revoke H5.out f).mono ?_
      rw [E2.out]
      rintro e w6 ⟨rfl, h'⟩
      have H6 := Lib.hid h'
      clear h'
      go_wp2_with fail
      refine (s_spend H6.out f 1 (by decide)).mono ?_
      rw [E3.out]
      rintro e w7 ⟨rfl, h'⟩
      have H7 := Lib.hid h'
      clear h'
      go_wp2_with fail
      have hp : pairB S2.acc.length f t = true := by
        simp only [isB, decide_eq_true_eq] at hbf2 hbt2
        simp only [pairB, decide_eq_true_eq]
        exact ⟨hbf2.1, hbf2.2, hbt2.1, hbt2.2, hft⟩
      obtain ⟨k1, k2, k3, k4⟩ := told_all H7.out.inv hp
      have hp3 : pairB (eEmpty S2 f t).acc.length f t = true := by rw [eEmpty_len]; exact hp
      obtain ⟨k5, _, _⟩ := told_one (eEmpty_inv H7.out.inv f t) hp3 (eEmpty_ms hp)
      have hr3 : ((eEmpty S2 f t).ac f).r = true := by rw [(Rel.empty H7.out.inv f t).ac f hf0 hft]; exact hr2
      have hr4' := k3.rev hr3
      have hs4' := k2.s
      have hb4' : isB (eEmpty (eSend (eEmpty S2 f t) f t).2 f t).acc.length t = true := by rw [k2.len]; exact hbt2
      have K1 := Lib.hid k1
      have K5 := Lib.hid k5
      clear k1 k2 k3 k4 k5 hr3
      refine (s_empty H7.out (by decide) f t).mono ?_
      rintro e w8 ⟨rfl, h'⟩
      have H8 := Lib.hid h'
      clear h'
      go_wp2_with fail
      refine (s_send H8.out f t).mono ?_
      rw [K1.out]
      rintro e w8a ⟨rfl, h'⟩
      have H8a := Lib.hid h'
      clear h'
      go_wp2_with fail
      refine (s_deliver H8a.out (by decide) f t false false).mono ?_
      rw [K5.out]
      rintro e w8b ⟨rfl, h'⟩
      have H9 := Lib.hid h'
      clear h'
      go_wp2_with fail
      have hr4 := hr4'
      have hs4 := hs4'.trans hs2
      have hb4 := hb4'
      clear hr4' hs4' hb4'
      generalize eEmpty (eSend (eEmpty S2 f t) f t).2 f t = S4 at *
      have e5 := spend_revoked hb4 hr4
      have E5 := Lib.hid e5
      have hbd := H9.out.inv.bound hb4
      have hU9 := H9.out.hU
      have hun := le_units H9.out.inv.sh hb4
      have hsum := H9.out.inv.sum
      have hfl := eFly_nonneg H9.out.inv.sh
      have hv := eHave_ac hb4
      rw [hs4] at hbd hun
      have hsp4 : 1 ≤ (S4.ac t).s := by rw [hs4]; exact hsp
      obtain ⟨e6, e7, e8⟩ := return_one hb4 hsp4
      have E6 := Lib.hid e6
      have E7 := Lib.hid e7
      have E8 := Lib.hid e8
      obtain ⟨x, hx⟩ : ∃ x, x = eHave S4 t := ⟨_, rfl⟩
      obtain ⟨y, hy⟩ : ∃ y, y = eSpent S4 := ⟨_, rfl⟩
      rw [← hv, ← hx] at hbd hun
      rw [← hy] at hun hsum
      have hw1 : Hid (wrap64 (x + 1) = x + 1) := Lib.hid (w64 (by omega) (by omega))
      have hw2 : Hid (wrap64 (y - 1) = y - 1) := Lib.hid (w64 (by omega) (by omega))
      have Hx := Lib.hid hx
      have Hy := Lib.hid hy
      clear hbd hU9 hun hsum hfl hv hx hy e5 e6 e7 e8 hsp4
      refine (s_have H9.out t).mono ?_
      rw [← Hx.out]
      rintro e w10 ⟨rfl, h'⟩
      have H10 := Lib.hid h'
      clear h'
      go_wp2_with fail
      refine (s_spent H10.out).mono ?_
      rw [← Hy.out]
      rintro e w11 ⟨rfl, h'⟩
      have H11 := Lib.hid h'
      clear h'
      go_wp2_with fail
      refine (s_spend H11.out t 1 (by decide)).mono ?_
      rw [E5.out]
      rintro e w12 ⟨rfl, h'⟩
      have H12 := Lib.hid h'
      clear h'
      go_wp2_with fail
      refine (s_spent H12.out).mono ?_
      rw [← Hy.out]
      rintro e w13 ⟨rfl, h'⟩
      have H13 := Lib.hid h'
      clear h'
      have ww1 := hw1.out
      have ww2 := hw2.out
      go_wp2_with fail
      refine (s_return H13.out t 1 (by decide)).mono ?_
      rw [E6.out]
      rintro e w14 ⟨rfl, h'⟩
      have H14 := Lib.hid h'
      clear h'
      go_wp2_with fail
      refine (s_have H14.out t).mono ?_
      rw [E7.out, ← Hx.out]
      rintro e w15 ⟨rfl, h'⟩
      have H15 := Lib.hid h'
      clear h'
      go_wp2_with fail
      refine (s_spent H15.out).mono ?_
      rw [E8.out, ← Hy.out]
      rintro e w16 ⟨rfl, h'⟩
      have H16 := Lib.hid h'
      clear h'
      go_wp2_with fail
      go_ret
      exact ⟨rfl, Hf1.out.trans0 H16.out.fr⟩
  · go_wp2_with fail
    have H5 := H4
    have hbf1 := hbf
    have hbt1 := hbt
    obtain ⟨S1, hS1⟩ : ∃ S1, S1 = S := ⟨_, rfl⟩
    rw [← hS1] at H5 hbf1 hbt1
    clear hS1 H4
    obtain ⟨S2, hS2⟩ : ∃ S2, S2 = S1.putA f ⟨(S1.ac f).u, (S1.ac f).s, true⟩ := ⟨_, rfl⟩
    have e2 := revoke_eq hbf1
    rw [← hS2] at e2
    have hbf2 : isB S2.acc.length f = true := by rw [hS2, ES.putA_len]; exact hbf1
    have hbt2 : isB S2.acc.length t = true := by rw [hS2, ES.putA_len]; exact hbt1
    have hr2 : (S2.ac f).r = true := by rw [hS2, ES.putA_same hbf1]
    have e3 := spend_revoked hbf2 hr2
    have hs2 : (S2.ac t).s = (S1.ac t).s := by
      by_cases h : t = f
      · rw [h, hS2, ES.putA_same hbf1]
      · rw [hS2, ES.putA_other hf0 ht0 h]
    have E2 := Lib.hid e2
    have E3 := Lib.hid e3
    clear e2 e3 hS2
    refine (s_revoke H5.out f).mono ?_
    rw [E2.out]
    rintro e w6 ⟨rfl, h'⟩
    have H6 := Lib.hid h'
    clear h'
    go_wp2_with fail
    refine (s_spend H6.out f 1 (by decide)).mono ?_
    rw [E3.out]
    rintro e w7 ⟨rfl, h'⟩
    have H7 := Lib.hid h'
    clear h'
    go_wp2_with fail
    have hp : pairB S2.acc.length f t = true := by
      simp only [isB, decide_eq_true_eq] at hbf2 hbt2
      simp only [pairB, decide_eq_true_eq]
      exact ⟨hbf2.1, hbf2.2, hbt2.1, hbt2.2, hft⟩
    obtain ⟨k1, k2, k3, k4⟩ := told_all H7.out.inv hp
    have hp3 : pairB (eEmpty S2 f t).acc.length f t = true := by rw [eEmpty_len]; exact hp
    obtain ⟨k5, _, _⟩ := told_one (eEmpty_inv H7.out.inv f t) hp3 (eEmpty_ms hp)
    have hr3 : ((eEmpty S2 f t).ac f).r = true := by rw [(Rel.empty H7.out.inv f t).ac f hf0 hft]; exact hr2
    have hr4' := k3.rev hr3
    have hs4' := k2.s
    have hb4' : isB (eEmpty (eSend (eEmpty S2 f t) f t).2 f t).acc.length t = true := by rw [k2.len]; exact hbt2
    have K1 := Lib.hid k1
    have K5 := Lib.hid k5
    clear k1 k2 k3 k4 k5 hr3
    refine (s_empty H7.out (by decide) f t).mono ?_
    rintro e w8 ⟨rfl, h'⟩
    have H8 := Lib.hid h'
    clear h'
    go_wp2_with fail
    refine (s_send H8.out f t).mono ?_
    rw [K1.out]
    rintro e w8a ⟨rfl, h'⟩
    have H8a := Lib.hid h'
    clear h'
    go_wp2_with fail
    refine (s_deliver H8a.out (by decide) f t false false).mono ?_
    rw [K5.out]
    rintro e w8b ⟨rfl, h'⟩
    have H9 := Lib.hid h'
    clear h'
    go_wp2_with fail
    have hr4 := hr4'
    have hs4 := hs4'.trans hs2
    have hb4 := hb4'
    clear hr4' hs4' hb4'
    generalize eEmpty (eSend (eEmpty S2 f t) f t).2 f t = S4 at *
    have e5 := spend_revoked hb4 hr4
    have E5 := Lib.hid e5
    have hbd := H9.out.inv.bound hb4
    have hU9 := H9.out.hU
    have hun := le_units H9.out.inv.sh hb4
    have hsum := H9.out.inv.sum
    have hfl := eFly_nonneg H9.out.inv.sh
    have hv := eHave_ac hb4
    obtain ⟨x, hx⟩ : ∃ x, x = eHave S4 t := ⟨_, rfl⟩
    obtain ⟨y, hy⟩ : ∃ y, y = eSpent S4 := ⟨_, rfl⟩
    rw [← hv, ← hx] at hbd hun
    rw [← hy] at hun hsum
    have hw1 : Hid (wrap64 (x + 1) = x + 1) := Lib.hid (w64 (by omega) (by omega))
    have hw2 : Hid (wrap64 (y - 1) = y - 1) := Lib.hid (w64 (by omega) (by omega))
    have Hx := Lib.hid hx
    have Hy := Lib.hid hy
    clear hbd hU9 hun hsum hfl hv hx hy e5
    refine (s_have H9.out t).mono ?_
    rw [← Hx.out]
    rintro e w10 ⟨rfl, h'⟩
    have H10 := Lib.hid h'
    clear h'
    go_wp2_with fail
    refine (s_spent H10.out).mono ?_
    rw [← Hy.out]
    rintro e w11 ⟨rfl, h'⟩
    have H11 := Lib.hid h'
    clear h'
    go_wp2_with fail
    refine (s_spend H11.out t 1 (by decide)).mono ?_
    rw [E5.out]
    rintro e w12 ⟨rfl, h'⟩
    have H12 := Lib.hid h'
    clear h'
    go_wp2_with fail
    refine (s_spent H12.out).mono ?_
    rw [← Hy.out]
    rintro e w13 ⟨rfl, h'⟩
    have H13 := Lib.hid h'
    clear h'
    go_wp2_with fail
    go_ret
    exact ⟨rfl, Hf1.out.trans0 H13.out.fr⟩

set_option maxHeartbeats 4000000 in
theorem revokes_same (r : Nat) (hr : r ≤ 255) (u : Int) (hu : 0 ≤ u) (hu2 : u ≤ 65535) {v : Value} {l : List EA} {w : World} (hl : RdA w v l) (hok : OKA l) (a b : Nat) (ha : a ≤ 255) (hb : b ≤ 255) (hab : (a : Int) % ((1 + r % 4 : Nat) : Int) = (b : Int) % ((1 + r % 4 : Nat) : Int)) :
    Calls Try.prog 8 #[.int .u8 r, .int .u16 u, v, .int .u8 a, .int .u8 b] w fun e w' => e = .returned (.bool true) ∧ Fr None' w w' := by
  have HL := Lib.hid hl
  have HO := Lib.hid hok
  clear hl hok
  go_enter Try.func8, Try.ntmps8
  go_wp2_with fail
  refine (head_any w).mono ?_
  rintro e w1 ⟨rfl, hf1⟩
  have Hf1 := Lib.hid hf1
  clear hf1
  go_wp2_with fail
  refine (open_any r hr u hu hu2 (HL.out.fr Hf1.out) HO.out).mono ?_
  rintro e w2 ⟨g, rfl, hE⟩
  have hlen := eOpen_len r u l
  generalize eOpen r u l = S at *
  have hm4 : r % 4 < 4 := Nat.mod_lt _ (by decide)
  generalize hN : 1 + r % 4 = n at *
  have hn4 : n ≤ 4 := by omega
  have hn1 : 1 ≤ n := by omega
  clear hN hm4
  have hn0 : ¬ (n : Int) = 0 := by omega
  have H2 := Lib.hid hE
  have Hlen := Lib.hid hlen
  clear hE hlen
  go_wp2_with fail
  go_quiet (fail)
  have H3 := Lib.hid (H2.out.frame ((Fr.refl None' w2).drewN nq))
  clear H2
  generalize w2.drewN nq = w3 at *
  have hf0 : 0 ≤ (a : Int) % (n : Int) := Int.emod_nonneg _ hn0
  have hf1 : (a : Int) % (n : Int) < n := Int.emod_lt_of_pos _ (by omega)
  have ht0 : 0 ≤ (b : Int) % (n : Int) := Int.emod_nonneg _ hn0
  have ht1 : (b : Int) % (n : Int) < n := Int.emod_lt_of_pos _ (by omega)
  generalize (a : Int) % (n : Int) = f at *
  generalize (b : Int) % (n : Int) = t at *
  have hbf : isB S.acc.length f = true := by rw [Hlen.out]; simp only [isB, decide_eq_true_eq]; omega
  have hbt : isB S.acc.length t = true := by rw [Hlen.out]; simp only [isB, decide_eq_true_eq]; omega
  subst hab
  obtain ⟨x0, hx0⟩ : ∃ x0, x0 = eHave S f := ⟨_, rfl⟩
  have Hx0 := Lib.hid hx0
  clear hx0
  go_wp2_with fail
  refine (s_have H3.out f).mono ?_
  rw [← Hx0.out]
  rintro e w4 ⟨rfl, h'⟩
  have H4 := Lib.hid h'
  clear h' H3
  by_cases hH : 0 < x0
  · by_cases hrv : (S.ac f).r = true
    · have E0 := Lib.hid (spend_revoked (S := S) hbt hrv)
      go_wp2_with fail
      refine (s_spend H4.out f 1 (by decide)).mono ?_
      rw [E0.out]
      rintro e w5 ⟨rfl, h'⟩
      have H5 := Lib.hid h'
      clear h' H4 E0
      go_wp2_with fail
      have hbf1 := hbf
      have hbt1 := hbt
      obtain ⟨S1, hS1⟩ : ∃ S1, S1 = S := ⟨_, rfl⟩
      rw [← hS1] at H5 hbf1 hbt1
      clear hS1
      obtain ⟨S2, hS2⟩ : ∃ S2, S2 = S1.putA f ⟨(S1.ac f).u, (S1.ac f).s, true⟩ := ⟨_, rfl⟩
      have e2 := revoke_eq hbf1
      rw [← hS2] at e2
      have hbf2 : isB S2.acc.length f = true := by rw [hS2, ES.putA_len]; exact hbf1
      have hr2 : (S2.ac f).r = true := by rw [hS2, ES.putA_same hbf1]
      have e3 := spend_revoked hbf2 hr2
      have hs2 : (S2.ac f).s = (S1.ac f).s := by rw [hS2, ES.putA_same hbf1]
      have E2 := Lib.hid e2
      have E3 := Lib.hid e3
      clear e2 e3 hS2
      refine (s_revoke H5.out f).mono ?_
      rw [E2.out]
      rintro e w6 ⟨rfl, h'⟩
      have H6 := Lib.hid h'
      clear h'
      go_wp2_with fail
      refine (s_spend H6.out f 1 (by decide)).mono ?_
      rw [E3.out]
      rintro e w7 ⟨rfl, h'⟩
      have H7 := Lib.hid h'
      clear h'
      go_wp2_with fail
      have H9 := H7
      have hr4 : (S2.ac f).r = true := hr2
      have hs4 : (S2.ac f).s = (S1.ac f).s := hs2
      have hb4 : isB S2.acc.length f = true := hbf2
      generalize S2 = S4 at *
      have e5 := spend_revoked hb4 hr4
      have E5 := Lib.hid e5
      have hbd := H9.out.inv.bound hb4
      have hU9 := H9.out.hU
      have hun := le_units H9.out.inv.sh hb4
      have hsum := H9.out.inv.sum
      have hfl := eFly_nonneg H9.out.inv.sh
      have hv := eHave_ac hb4
      obtain ⟨x, hx⟩ : ∃ x, x = eHave S4 f := ⟨_, rfl⟩
      obtain ⟨y, hy⟩ : ∃ y, y = eSpent S4 := ⟨_, rfl⟩
      rw [← hv, ← hx] at hbd hun
      rw [← hy] at hun hsum
      have hw1 : Hid (wrap64 (x + 1) = x + 1) := Lib.hid (w64 (by omega) (by omega))
      have hw2 : Hid (wrap64 (y - 1) = y - 1) := Lib.hid (w64 (by omega) (by omega))
      have Hx := Lib.hid hx
      have Hy := Lib.hid hy
      clear hbd hU9 hun hsum hfl hv hx hy e5
      refine (s_have H9.out f).mono ?_
      rw [← Hx.out]
      rintro e w10 ⟨rfl, h'⟩
      have H10 := Lib.hid h'
      clear h'
      go_wp2_with fail
      refine (s_spent H10.out).mono ?_
      rw [← Hy.out]
      rintro e w11 ⟨rfl, h'⟩
      have H11 := Lib.hid h'
      clear h'
      go_wp2_with fail
      refine (s_spend H11.out f 1 (by decide)).mono ?_
      rw [E5.out]
      rintro e w12 ⟨rfl, h'⟩
      have H12 := Lib.hid h'
      clear h'
      go_wp2_with fail
      refine (s_spent H12.out).mono ?_
      rw [← Hy.out]
      rintro e w13 ⟨rfl, h'⟩
      have H13 := Lib.hid h'
      clear h'
      go_wp2_with fail
      go_ret
      exact ⟨rfl, Hf1.out.trans0 H13.out.fr⟩
    · have E0 := Lib.hid (spend_ok1 (S := S) hbt hrv (by rw [← Hx0.out]; exact hH))
      go_wp2_with fail
      refine (s_spend H4.out f 1 (by decide)).mono ?_
      rw [E0.out]
      rintro e w5 ⟨rfl, h'⟩
      obtain ⟨S1, hS1⟩ : ∃ S1, S1 = S.putA f ⟨(S.ac f).u - 1, (S.ac f).s + 1, (S.ac f).r⟩ := ⟨_, rfl⟩
      have hbf1 : isB S1.acc.length f = true := by rw [hS1, ES.putA_len]; exact hbf
      have hbt1 : isB S1.acc.length f = true := by rw [hS1, ES.putA_len]; exact hbt
      have hsp : 1 ≤ (S1.ac f).s := by rw [hS1, ES.putA_same hbt]; have := (H4.out.inv.bound hbt).2.1; simp only []; omega
      rw [← hS1] at h'
      have H5 := Lib.hid h'
      clear h' H4 E0 hS1
      go_wp2_with fail
      obtain ⟨S2, hS2⟩ : ∃ S2, S2 = S1.putA f ⟨(S1.ac f).u, (S1.ac f).s, true⟩ := ⟨_, rfl⟩
      have e2 := revoke_eq hbf1
      rw [← hS2] at e2
      have hbf2 : isB S2.acc.length f = true := by rw [hS2, ES.putA_len]; exact hbf1
      have hr2 : (S2.ac f).r = true := by rw [hS2, ES.putA_same hbf1]
      have e3 := spend_revoked hbf2 hr2
      have hs2 : (S2.ac f).s = (S1.ac f).s := by rw [hS2, ES.putA_same hbf1]
      have E2 := Lib.hid e2
      have E3 := Lib.hid e3
      clear e2 e3 hS2
      refine (s_revoke H5.out f).mono ?_
      rw [E2.out]
      rintro e w6 ⟨rfl, h'⟩
      have H6 := Lib.hid h'
      clear h'
      go_wp2_with fail
      refine (s_spend H6.out f 1 (by decide)).mono ?_
      rw [E3.out]
      rintro e w7 ⟨rfl, h'⟩
      have H7 := Lib.hid h'
      clear h'
      go_wp2_with fail
      have H9 := H7
      have hr4 : (S2.ac f).r = true := hr2
      have hs4 : (S2.ac f).s = (S1.ac f).s := hs2
      have hb4 : isB S2.acc.length f = true := hbf2
      generalize S2 = S4 at *
      have e5 := spend_revoked hb4 hr4
      have E5 := Lib.hid e5
      have hbd := H9.out.inv.bound hb4
      have hU9 := H9.out.hU
      have hun := le_units H9.out.inv.sh hb4
      have hsum := H9.out.inv.sum
      have hfl := eFly_nonneg H9.out.inv.sh
      have hv := eHave_ac hb4
      rw [hs4] at hbd hun
      have hsp4 : 1 ≤ (S4.ac f).s := by rw [hs4]; exact hsp
      obtain ⟨e6, e7, e8⟩ := return_one hb4 hsp4
      have E6 := Lib.hid e6
      have E7 := Lib.hid e7
      have E8 := Lib.hid e8
      obtain ⟨x, hx⟩ : ∃ x, x = eHave S4 f := ⟨_, rfl⟩
      obtain ⟨y, hy⟩ : ∃ y, y = eSpent S4 := ⟨_, rfl⟩
      rw [← hv, ← hx] at hbd hun
      rw [← hy] at hun hsum
      have hw1 : Hid (wrap64 (x + 1) = x + 1) := Lib.hid (w64 (by omega) (by omega))
      have hw2 : Hid (wrap64 (y - 1) = y - 1) := Lib.hid (w64 (by omega) (by omega))
      have Hx := Lib.hid hx
      have Hy := Lib.hid hy
      clear hbd hU9 hun hsum hfl hv hx hy e5 e6 e7 e8 hsp4
      refine (s_have H9.out f).mono ?_
      rw [← Hx.out]
      rintro e w10 ⟨rfl, h'⟩
      have H10 := Lib.hid h'
      clear h'
      go_wp2_with fail
      refine (s_spent H10.out).mono ?_
      rw [← Hy.out]
      rintro e w11 ⟨rfl, h'⟩
      have H11 := Lib.hid h'
      clear h'
      go_wp2_with fail
      refine (s_spend H11.out f 1 (by decide)).mono ?_
      rw [E5.out]
      rintro e w12 ⟨rfl, h'⟩
      have H12 := Lib.hid h'
      clear h'
      go_wp2_with fail
      refine (s_spent H12.out).mono ?_
      rw [← Hy.out]
      rintro e w13 ⟨rfl, h'⟩
      have H13 := Lib.hid h'
      clear h'
      have ww1 := hw1.out
      have ww2 := hw2.out
      go_wp2_with fail
      refine (s_return H13.out f 1 (by decide)).mono ?_
      rw [E6.out]
      rintro e w14 ⟨rfl, h'⟩
      have H14 := Lib.hid h'
      clear h'
      go_wp2_with fail
      refine (s_have H14.out f).mono ?_
      rw [E7.out, ← Hx.out]
      rintro e w15 ⟨rfl, h'⟩
      have H15 := Lib.hid h'
      clear h'
      go_wp2_with fail
      refine (s_spent H15.out).mono ?_
      rw [E8.out, ← Hy.out]
      rintro e w16 ⟨rfl, h'⟩
      have H16 := Lib.hid h'
      clear h'
      go_wp2_with fail
      go_ret
      exact ⟨rfl, Hf1.out.trans0 H16.out.fr⟩
  · go_wp2_with fail
    have H5 := H4
    have hbf1 := hbf
    have hbt1 := hbt
    obtain ⟨S1, hS1⟩ : ∃ S1, S1 = S := ⟨_, rfl⟩
    rw [← hS1] at H5 hbf1 hbt1
    clear hS1 H4
    obtain ⟨S2, hS2⟩ : ∃ S2, S2 = S1.putA f ⟨(S1.ac f).u, (S1.ac f).s, true⟩ := ⟨_, rfl⟩
    have e2 := revoke_eq hbf1
    rw [← hS2] at e2
    have hbf2 : isB S2.acc.length f = true := by rw [hS2, ES.putA_len]; exact hbf1
    have hr2 : (S2.ac f).r = true := by rw [hS2, ES.putA_same hbf1]
    have e3 := spend_revoked hbf2 hr2
    have hs2 : (S2.ac f).s = (S1.ac f).s := by rw [hS2, ES.putA_same hbf1]
    have E2 := Lib.hid e2
    have E3 := Lib.hid e3
    clear e2 e3 hS2
    refine (s_revoke H5.out f).mono ?_
    rw [E2.out]
    rintro e w6 ⟨rfl, h'⟩
    have H6 := Lib.hid h'
    clear h'
    go_wp2_with fail
    refine (s_spend H6.out f 1 (by decide)).mono ?_
    rw [E3.out]
    rintro e w7 ⟨rfl, h'⟩
    have H7 := Lib.hid h'
    clear h'
    go_wp2_with fail
    have H9 := H7
    have hr4 : (S2.ac f).r = true := hr2
    have hs4 : (S2.ac f).s = (S1.ac f).s := hs2
    have hb4 : isB S2.acc.length f = true := hbf2
    generalize S2 = S4 at *
    have e5 := spend_revoked hb4 hr4
    have E5 := Lib.hid e5
    have hbd := H9.out.inv.bound hb4
    have hU9 := H9.out.hU
    have hun := le_units H9.out.inv.sh hb4
    have hsum := H9.out.inv.sum
    have hfl := eFly_nonneg H9.out.inv.sh
    have hv := eHave_ac hb4
    obtain ⟨x, hx⟩ : ∃ x, x = eHave S4 f := ⟨_, rfl⟩
    obtain ⟨y, hy⟩ : ∃ y, y = eSpent S4 := ⟨_, rfl⟩
    rw [← hv, ← hx] at hbd hun
    rw [← hy] at hun hsum
    have hw1 : Hid (wrap64 (x + 1) = x + 1) := Lib.hid (w64 (by omega) (by omega))
    have hw2 : Hid (wrap64 (y - 1) = y - 1) := Lib.hid (w64 (by omega) (by omega))
    have Hx := Lib.hid hx
    have Hy := Lib.hid hy
    clear hbd hU9 hun hsum hfl hv hx hy e5
    refine (s_have H9.out f).mono ?_
    rw [← Hx.out]
    rintro e w10 ⟨rfl, h'⟩
    have H10 := Lib.hid h'
    clear h'
    go_wp2_with fail
    refine (s_spent H10.out).mono ?_
    rw [← Hy.out]
    rintro e w11 ⟨rfl, h'⟩
    have H11 := Lib.hid h'
    clear h'
    go_wp2_with fail
    refine (s_spend H11.out f 1 (by decide)).mono ?_
    rw [E5.out]
    rintro e w12 ⟨rfl, h'⟩
    have H12 := Lib.hid h'
    clear h'
    go_wp2_with fail
    refine (s_spent H12.out).mono ?_
    rw [← Hy.out]
    rintro e w13 ⟨rfl, h'⟩
    have H13 := Lib.hid h'
    clear h'
    go_wp2_with fail
    go_ret
    exact ⟨rfl, Hf1.out.trans0 H13.out.fr⟩
set_option maxRecDepth 1000000 in
open Go.ChangeShapes Go.WideShapes in
theorem revokes_walk {H : Type} {enc : TypeId × Value → H} (W : World) {b0 : Nat} {v2 : Value} {d2 : DataW H} {p2 : List MemPlace} (a0 : Int) (w0 : (Lit.int .u8 a0).wf = true) (a1 : Int) (w1 : (Lit.int .u16 a1).wf = true)
    (o2 : Value.okWide Try.prog W .any b0 54 v2) (k2 : DataW.Trod enc Try.prog W 0 (fun _ => true) true 54 v2 d2 p2) (z2 : (d2.weights Try.prog 54).all (· ≤ reachBytes) = true) (a3 : Int) (w3 : (Lit.int .u8 a3).wf = true) (a4 : Int) (w4 : (Lit.int .u8 a4).wf = true) :
    Calls Try.prog 8 #[.int .u8 a0, .int .u16 a1, v2, .int .u8 a3, .int .u8 a4] W fun e w' => e = .returned (.bool true) ∧ Below W.heap.size W w' := by
  obtain ⟨l, hl, hm⟩ := open_acts W o2 k2 z2
  obtain ⟨r, rfl, hr⟩ := u8_range w0
  obtain ⟨h1, h2⟩ := u16_range w1
  obtain ⟨a, rfl, ha⟩ := u8_range w3
  obtain ⟨b, rfl, hb⟩ := u8_range w4
  by_cases hab : (a : Int) % ((1 + r % 4 : Nat) : Int) = (b : Int) % ((1 + r % 4 : Nat) : Int)
  · exact (revokes_same r hr a1 h1 h2 hl hm a b ha hb hab).mono fun e w' h => fr_end h
  · exact (revokes_two r hr a1 h1 h2 hl hm a b ha hb hab).mono fun e w' h => fr_end h
end Go.Proofs.Ytdjaofkbgkifkaa

/- Package escrow: EscrowConfirms. -/
import Derived.Test.YtdjaofkbgkifkaaE25
set_option linter.unusedVariables false
set_option linter.unusedSimpArgs false
namespace Go.Proofs.Ytdjaofkbgkifkaa
open Go.RowKit

/-- k transfers of one unit. -/
def eGives (S : ES) (a b : Int) : Nat → ES
  | 0 => S
  | k + 1 => (eGive (eGives S a b k) a b 1).2
theorem eGives_len (S : ES) (a b : Int) : ∀ k, (eGives S a b k).acc.length = S.acc.length
  | 0 => rfl
  | k + 1 => by rw [eGives, eGive_len, eGives_len S a b k]
theorem give_one {S : ES} {a b : Int} (hp : pairB S.acc.length a b = true) (hu : 1 ≤ (S.ac a).u) (hq : (S.ln a b).all.length < (S.ln a b).conf + 100) :
    (eGive S a b 1).1 = 0 ∧ ((eGive S a b 1).2.ac a).u = (S.ac a).u - 1 ∧ ((eGive S a b 1).2.ln a b).conf = (S.ln a b).conf ∧ ((eGive S a b 1).2.ln a b).all.length = (S.ln a b).all.length + 1 := by
  have e : eGive S a b 1 = (0, (S.putA a ⟨(S.ac a).u - 1, (S.ac a).s, (S.ac a).r⟩).putL a b { S.ln a b with all := (S.ln a b).all ++ [1] }) := by
    unfold eGive; rw [if_neg (by rw [hp]; simp), if_neg (by omega), if_neg (by omega)]
  rw [e]
  refine ⟨rfl, ?_, ?_, ?_⟩
  · simp only [ES.putL_ac]; rw [ES.putA_same (pairB_left hp)]
  · simp only [ES.putL_same]
  · simp only [ES.putL_same, List.length_append, List.length_singleton]
theorem eGives_at {S : ES} {a b : Int} (hp : pairB S.acc.length a b = true) (hc : (S.ln a b).conf = (S.ln a b).all.length) : ∀ k : Nat, k ≤ 100 → (k : Int) ≤ (S.ac a).u →
    ((eGives S a b k).ac a).u = (S.ac a).u - k ∧ ((eGives S a b k).ln a b).conf = (S.ln a b).conf ∧ ((eGives S a b k).ln a b).all.length = (S.ln a b).all.length + k
  | 0, _, _ => by simp [eGives]
  | k + 1, h1, h2 => by
    obtain ⟨e1, e2, e3⟩ := eGives_at hp hc k (by omega) (by omega)
    have hp' : pairB (eGives S a b k).acc.length a b = true := by rw [eGives_len]; exact hp
    obtain ⟨_, g1, g2, g3⟩ := give_one hp' (by omega) (by omega)
    refine ⟨?_, ?_, ?_⟩
    · show ((eGive (eGives S a b k) a b 1).2.ac a).u = _
      rw [g1, e1]; omega
    · show ((eGive (eGives S a b k) a b 1).2.ln a b).conf = _
      rw [g2, e2]
    · show ((eGive (eGives S a b k) a b 1).2.ln a b).all.length = _
      rw [g3, e3]; omega
theorem give_last {S : ES} {a b : Int} (hp : pairB S.acc.length a b = true) (hc : (S.ln a b).conf = (S.ln a b).all.length) (k : Nat) (h1 : k ≤ 100) (h2 : (k : Int) ≤ (S.ac a).u) :
    ((k : Int) = (S.ac a).u → (eGive (eGives S a b k) a b 1).1 = 19) ∧ (k = 100 → 100 < (S.ac a).u → (eGive (eGives S a b k) a b 1).1 = 28) ∧ (k < 100 → (k : Int) < (S.ac a).u → (eGive (eGives S a b k) a b 1).1 = 0) := by
  obtain ⟨e1, e2, e3⟩ := eGives_at hp hc k h1 h2
  have hp' : pairB (eGives S a b k).acc.length a b = true := by rw [eGives_len]; exact hp
  refine ⟨fun h => ?_, fun h h' => ?_, fun h h' => (give_one hp' (by omega) (by omega)).1⟩
  · unfold eGive; rw [if_neg (by rw [hp']; simp), if_pos (by omega)]
  · unfold eGive; rw [if_neg (by rw [hp']; simp), if_neg (by omega), if_pos (by omega)]
/-- Both were told: what was transferred is confirmed. -/
theorem confirmed {U : Int} {t : Nat} {S : ES} (h : Inv U t S) {a b : Int} (hp : pairB S.acc.length a b = true) (S1 : ES) (hS1 : S1 = eEmpty (eSend (eEmpty S a b) a b).2 a b) :
    (eSend (eEmpty S1 b a) b a).1 = 0 ∧ pairB (eEmpty (eSend (eEmpty S1 b a) b a).2 b a).acc.length a b = true ∧ ((eEmpty (eSend (eEmpty S1 b a) b a).2 b a).ln a b).conf = ((eEmpty (eSend (eEmpty S1 b a) b a).2 b a).ln a b).all.length := by
  obtain ⟨_, r1, t1, i1⟩ := told_all h hp
  rw [← hS1] at r1 t1 i1
  have hp1 : pairB S1.acc.length a b = true := by rw [r1.len]; exact hp
  obtain ⟨k1, r2, t2, _⟩ := told_all i1 (pairB_swap hp1)
  have hne := pairB_ne hp
  refine ⟨k1, by rw [r2.len]; exact hp1, ?_⟩
  rw [t2.knows, r2.rcv a b (fun e => hne e.1), r2.all a b, t1.got]

set_option maxHeartbeats 4000000 in
theorem confirms_same (r : Nat) (hr : r ≤ 255) (u : Int) (hu : 0 ≤ u) (hu2 : u ≤ 65535) {v : Value} {l : List EA} {w : World} (hl : RdA w v l) (hok : OKA l) (a b : Nat) (ha : a ≤ 255) (hb : b ≤ 255) (hab : (a : Int) % ((1 + r % 4 : Nat) : Int) = (b : Int) % ((1 + r % 4 : Nat) : Int)) :
    Calls Try.prog 9 #[.int .u8 r, .int .u16 u, v, .int .u8 a, .int .u8 b] w fun e w' => e = .returned (.bool true) ∧ Fr None' w w' := by
  have HL := Lib.hid hl
  have HO := Lib.hid hok
  clear hl hok
  go_enter Try.func9, Try.ntmps9
  go_wp2_with fail
  refine (head_any w).mono ?_
  rintro e w1 ⟨rfl, hf1⟩
  have Hf1 := Lib.hid hf1
  clear hf1
  go_wp2_with fail
  refine (open_any r hr u hu hu2 (HL.out.fr Hf1.out) HO.out).mono ?_
  rintro e w2 ⟨g, rfl, hE⟩
  have hlen := eOpen_len r u l
  generalize eOpen r u l = S at *
  have hm4 : r % 4 < 4 := Nat.mod_lt _ (by decide)
  generalize hN : 1 + r % 4 = n at *
  have hn4 : n ≤ 4 := by omega
  have hn1 : 1 ≤ n := by omega
  clear hN hm4
  have hn0 : ¬ (n : Int) = 0 := by omega
  have H2 := Lib.hid hE
  have Hlen := Lib.hid hlen
  clear hE hlen
  go_wp2_with fail
  go_quiet (fail)
  have H3 := Lib.hid (H2.out.frame ((Fr.refl None' w2).drewN nq))
  clear H2
  generalize w2.drewN nq = w3 at *
  have hf0 : 0 ≤ (a : Int) % (n : Int) := Int.emod_nonneg _ hn0
  have hf1 : (a : Int) % (n : Int) < n := Int.emod_lt_of_pos _ (by omega)
  have ht0 : 0 ≤ (b : Int) % (n : Int) := Int.emod_nonneg _ hn0
  have ht1 : (b : Int) % (n : Int) < n := Int.emod_lt_of_pos _ (by omega)
  generalize (a : Int) % (n : Int) = f at *
  generalize (b : Int) % (n : Int) = t at *
  have hbf : isB S.acc.length f = true := by rw [Hlen.out]; simp only [isB, decide_eq_true_eq]; omega
  have hbt : isB S.acc.length t = true := by rw [Hlen.out]; simp only [isB, decide_eq_true_eq]; omega
  subst hab
  go_wp2_with fail
  go_ret
  exact ⟨rfl, Hf1.out.trans0 H3.out.fr⟩

set_option maxHeartbeats 4000000 in
theorem confirms_two (r : Nat) (hr : r ≤ 255) (u : Int) (hu : 0 ≤ u) (hu2 : u ≤ 65535) {v : Value} {l : List EA} {w : World} (hl : RdA w v l) (hok : OKA l) (a b : Nat) (ha : a ≤ 255) (hb : b ≤ 255) (hab : ¬ (a : Int) % ((1 + r % 4 : Nat) : Int) = (b : Int) % ((1 + r % 4 : Nat) : Int)) :
    Calls Try.prog 9 #[.int .u8 r, .int .u16 u, v, .int .u8 a, .int .u8 b] w fun e w' => e = .returned (.bool true) ∧ Fr None' w w' := by
  have HL := Lib.hid hl
  have HO := Lib.hid hok
  clear hl hok
  go_enter Try.func9, Try.ntmps9
  go_wp2_with fail
  refine (head_any w).mono ?_
  rintro e w1 ⟨rfl, hf1⟩
  have Hf1 := Lib.hid hf1
  clear hf1
  go_wp2_with fail
  refine (open_any r hr u hu hu2 (HL.out.fr Hf1.out) HO.out).mono ?_
  rintro e w2 ⟨g, rfl, hE⟩
  have hlen := eOpen_len r u l
  generalize eOpen r u l = S at *
  have hm4 : r % 4 < 4 := Nat.mod_lt _ (by decide)
  generalize hN : 1 + r % 4 = n at *
  have hn4 : n ≤ 4 := by omega
  have hn1 : 1 ≤ n := by omega
  clear hN hm4
  have hn0 : ¬ (n : Int) = 0 := by omega
  have H2 := Lib.hid hE
  have Hlen := Lib.hid hlen
  clear hE hlen
  go_wp2_with fail
  go_quiet (fail)
  have H3 := Lib.hid (H2.out.frame ((Fr.refl None' w2).drewN nq))
  clear H2
  generalize w2.drewN nq = w3 at *
  have hf0 : 0 ≤ (a : Int) % (n : Int) := Int.emod_nonneg _ hn0
  have hf1 : (a : Int) % (n : Int) < n := Int.emod_lt_of_pos _ (by omega)
  have ht0 : 0 ≤ (b : Int) % (n : Int) := Int.emod_nonneg _ hn0
  have ht1 : (b : Int) % (n : Int) < n := Int.emod_lt_of_pos _ (by omega)
  generalize (a : Int) % (n : Int) = f at *
  generalize (b : Int) % (n : Int) = t at *
  have hbf : isB S.acc.length f = true := by rw [Hlen.out]; simp only [isB, decide_eq_true_eq]; omega
  have hbt : isB S.acc.length t = true := by rw [Hlen.out]; simp only [isB, decide_eq_true_eq]; omega
  have hft : ¬ f = t := hab
  have hp : pairB S.acc.length f t = true := by
    simp only [isB, decide_eq_true_eq] at hbf hbt
    simp only [pairB, decide_eq_true_eq]
    exact ⟨hbf.1, hbf.2, hbt.1, hbt.2, hft⟩
  have k1 := (told_all H3.out.inv hp).1
  obtain ⟨S1, hS1⟩ : ∃ S1, S1 = eEmpty (eSend (eEmpty S f t) f t).2 f t := ⟨_, rfl⟩
  obtain ⟨k2, k3, k4⟩ := confirmed H3.out.inv hp S1 hS1
  have K1 := Lib.hid k1
  have K2 := Lib.hid k2
  have K3 := Lib.hid k3
  have K4 := Lib.hid k4
  have HS1 := Lib.hid hS1
  clear k1 k2 k3 k4 hS1
  go_wp2_with fail
  refine (s_empty H3.out (by decide) f t).mono ?_
  rintro e w4 ⟨rfl, h'⟩
  have H4 := Lib.hid h'
  clear h' H3
  go_wp2_with fail
  refine (s_send H4.out f t).mono ?_
  rw [K1.out]
  rintro e w5 ⟨rfl, h'⟩
  have H5 := Lib.hid h'
  clear h' H4
  go_wp2_with fail
  refine (s_empty H5.out (by decide) f t).mono ?_
  rw [← HS1.out]
  rintro e w6 ⟨rfl, h'⟩
  have H6 := Lib.hid h'
  clear h' H5
  go_wp2_with fail
  refine (s_empty H6.out (by decide) t f).mono ?_
  rintro e w7 ⟨rfl, h'⟩
  have H7 := Lib.hid h'
  clear h' H6
  go_wp2_with fail
  refine (s_send H7.out t f).mono ?_
  rw [K2.out]
  rintro e w8 ⟨rfl, h'⟩
  have H8 := Lib.hid h'
  clear h' H7
  go_wp2_with fail
  refine (s_empty H8.out (by decide) t f).mono ?_
  rintro e w9 ⟨rfl, h'⟩
  have H9 := Lib.hid h'
  clear h' H8
  go_wp2_with fail
  generalize eEmpty (eSend (eEmpty S1 t f) t f).2 t f = S2 at *
  have hb2 := pairB_left K3.out
  have hv := eHave_ac hb2
  have hx0 := (H9.out.inv.sh.ac hb2).1
  have hgl := fun k h1 h2 => give_last K3.out K4.out k h1 h2
  rw [← hv] at hx0 hgl
  obtain ⟨x, hx⟩ : ∃ x, x = eHave S2 f := ⟨_, rfl⟩
  rw [← hx] at hx0 hgl
  have Hx := Lib.hid hx
  have HGL := Lib.hid hgl
  clear hv hx hgl
  refine (s_have H9.out f).mono ?_
  rw [← Hx.out]
  rintro e w10 ⟨rfl, h'⟩
  have H10 := Lib.hid h'
  clear h' H9
  go_wp2_with fail
  go_loopw [17] (fun iv wr => ∃ k : Nat, k ≤ 100 ∧ (k : Int) ≤ x ∧ iv = .int .i64 k ∧ ESt u (150 + k) w1 wr g (eGives S2 f t k)) (fun iv _ => 100 - (intOf iv).toNat)
  case atStart => exact ⟨0, by decide, hx0, rfl, H10.out⟩
  case round =>
    obtain ⟨k, hk, hkx, rfl, hE⟩ := hrel
    have HE := Lib.hid hE
    clear hE
    by_cases hlt : k < 100 ∧ (k : Int) < x
    · have h1 : (k : Int) < 100 := by omega
      have h2 := hlt.2
      have E := Lib.hid ((HGL.out k hk hkx).2.2 hlt.1 hlt.2)
      have h3 := hlt.1
      clear hlt
      go_wp2_with fail
      refine (s_give HE.out (by omega) f t 1).mono ?_
      rw [E.out]
      rintro e w11 ⟨rfl, h'⟩
      have H11 := Lib.hid h'
      clear h'
      go_wp2_with fail
      go_roundw
      case rel => exact ⟨k + 1, h3, by omega, by go_num, H11.out⟩
      case measure => simp [intOf]; omega
    · by_cases hx100 : x ≤ 100
      · have hkx2 : (k : Int) = x := by omega
        have E := Lib.hid ((HGL.out k hk hkx).1 hkx2)
        subst hkx2
        have hq : ¬ (100 : Int) < k := by omega
        clear hlt
        go_wp2_with fail
        all_goals (
          refine (s_give HE.out (by omega) f t 1).mono ?_
          rw [E.out]
          rintro e w11 ⟨rfl, h'⟩
          have H11 := Lib.hid h'
          clear h'
          go_wp2_with fail
          go_ret
          exact ⟨rfl, Hf1.out.trans0 H11.out.fr⟩)
      · have hk100 : k = 100 := by omega
        subst hk100
        have hx1 : 100 < x := by omega
        have E := Lib.hid ((HGL.out 100 hk hkx).2.1 rfl hx1)
        clear hlt
        go_wp2_with fail
        all_goals (
          refine (s_give HE.out (by decide) f t 1).mono ?_
          rw [E.out]
          rintro e w11 ⟨rfl, h'⟩
          have H11 := Lib.hid h'
          clear h'
          go_wp2_with fail
          go_ret
          exact ⟨rfl, Hf1.out.trans0 H11.out.fr⟩)
set_option maxRecDepth 1000000 in
open Go.ChangeShapes Go.WideShapes in
theorem confirms_walk {H : Type} {enc : TypeId × Value → H} (W : World) {b0 : Nat} {v2 : Value} {d2 : DataW H} {p2 : List MemPlace} (a0 : Int) (w0 : (Lit.int .u8 a0).wf = true) (a1 : Int) (w1 : (Lit.int .u16 a1).wf = true)
    (o2 : Value.okWide Try.prog W .any b0 54 v2) (k2 : DataW.Trod enc Try.prog W 0 (fun _ => true) true 54 v2 d2 p2) (z2 : (d2.weights Try.prog 54).all (· ≤ reachBytes) = true) (a3 : Int) (w3 : (Lit.int .u8 a3).wf = true) (a4 : Int) (w4 : (Lit.int .u8 a4).wf = true) :
    Calls Try.prog 9 #[.int .u8 a0, .int .u16 a1, v2, .int .u8 a3, .int .u8 a4] W fun e w' => e = .returned (.bool true) ∧ Below W.heap.size W w' := by
  obtain ⟨l, hl, hm⟩ := open_acts W o2 k2 z2
  obtain ⟨r, rfl, hr⟩ := u8_range w0
  obtain ⟨h1, h2⟩ := u16_range w1
  obtain ⟨a, rfl, ha⟩ := u8_range w3
  obtain ⟨b, rfl, hb⟩ := u8_range w4
  by_cases hab : (a : Int) % ((1 + r % 4 : Nat) : Int) = (b : Int) % ((1 + r % 4 : Nat) : Int)
  · exact (confirms_same r hr a1 h1 h2 hl hm a b ha hb hab).mono fun e w' h => fr_end h
  · exact (confirms_two r hr a1 h1 h2 hl hm a b ha hb hab).mono fun e w' h => fr_end h
end Go.Proofs.Ytdjaofkbgkifkaa

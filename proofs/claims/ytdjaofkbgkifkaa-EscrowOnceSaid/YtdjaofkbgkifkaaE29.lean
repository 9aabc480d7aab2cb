/- Package escrow: EscrowOnce. -/
import Derived.Test.YtdjaofkbgkifkaaE25
set_option linter.unusedVariables false
set_option linter.unusedSimpArgs false
namespace Go.Proofs.Ytdjaofkbgkifkaa
open Go.RowKit

def Seen (S : ES) (a b : Int) (m : EM) : Prop := m.l ≤ (S.ln a b).rcv ∧ m.c ≤ (S.ln b a).conf ∧ (m.r = true → (S.ac b).r = true)
theorem Seen.rel {S S' : ES} {a b : Int} {m : EM} (h : Seen S a b m) (r : Rel a b S S') : Seen S' a b m := ⟨Nat.le_trans h.1 r.up, Nat.le_trans h.2.1 r.cup, fun x => r.r (h.2.2 x)⟩
theorem deliver_eq {S : ES} {a b : Int} (hp : pairB S.acc.length a b = true) {m : EM} {q : List EM} (hm : (S.ln a b).ms = m :: q) : eDeliver S a b false true = (true, eTake (eNext S a b (q ++ [m])) a b m) := by
  unfold eDeliver; rw [if_neg (by rw [hp]; simp), hm]; rfl
theorem seen_now {S : ES} {a b : Int} (hp : pairB S.acc.length a b = true) (m : EM) : Seen (eTake S a b m) a b m := by
  obtain ⟨h1, h2, _⟩ := eTake_ln (S := S) m (pairB_ne hp)
  obtain ⟨h4, _⟩ := eTake_ac (S := S) (a := a) m (pairB_right hp)
  refine ⟨?_, ?_, ?_⟩
  · rw [h1]; simp only []; omega
  · rw [h2]; simp only []; omega
  · intro hr; rw [h4]; simp only [hr, Bool.or_true]
theorem rot_step {U : Int} {t0 : Nat} {S : ES} (h : Inv U t0 S) {a b : Int} (hp : pairB S.acc.length a b = true) (xs ys : List EM) (hm : (S.ln a b).ms = xs ++ ys) (hy : ∀ y ∈ ys, Seen S a b y) (hne : (S.ln a b).ms ≠ []) :
    (eDeliver S a b false true).1 = true ∧ (((eDeliver S a b false true).2).ln a b).ms ≠ [] ∧ ∃ xs' ys', (((eDeliver S a b false true).2).ln a b).ms = xs' ++ ys' ∧ (∀ y ∈ ys', Seen (eDeliver S a b false true).2 a b y) ∧ xs'.length = xs.length - 1 := by
  have r := Rel.deliver h a b false true
  cases xs with
  | nil =>
    cases ys with
    | nil => exact absurd hm hne
    | cons m q =>
      have e := deliver_eq hp (m := m) (q := q) (by rw [hm]; rfl)
      obtain ⟨_, hms⟩ := eDeliver_ms hp (m := m) (r := q) (by rw [hm]; rfl) true
      simp only [if_true] at hms
      refine ⟨by rw [e], by rw [hms]; simp, [], q ++ [m], by rw [hms]; rfl, fun y hy' => ?_, rfl⟩
      refine Seen.rel (hy y ?_) r
      rcases List.mem_append.1 hy' with h1 | h1
      · simp [h1]
      · simp at h1; simp [h1]
  | cons m q =>
    have e := deliver_eq hp (m := m) (q := q ++ ys) (by rw [hm]; rfl)
    obtain ⟨_, hms⟩ := eDeliver_ms hp (m := m) (r := q ++ ys) (by rw [hm]; rfl) true
    simp only [if_true] at hms
    refine ⟨by rw [e], by rw [hms]; simp, q, ys ++ [m], by rw [hms, List.append_assoc], fun y hy' => ?_, by simp⟩
    rcases List.mem_append.1 hy' with h1 | h1
    · exact Seen.rel (hy y h1) r
    · simp at h1
      rw [h1, e]
      exact seen_now (S := eNext S a b (q ++ ys ++ [m])) hp m
theorem rot_at {U : Int} {t0 : Nat} {S : ES} (h : Inv U t0 S) {a b : Int} (hp : pairB S.acc.length a b = true) (hne : (S.ln a b).ms ≠ []) : ∀ k : Nat,
    ((eIter true S a b k).ln a b).ms ≠ [] ∧ ∃ xs ys, ((eIter true S a b k).ln a b).ms = xs ++ ys ∧ (∀ y ∈ ys, Seen (eIter true S a b k) a b y) ∧ xs.length = (S.ln a b).ms.length - k
  | 0 => ⟨hne, (S.ln a b).ms, [], by simp [eIter], by simp, rfl⟩
  | k + 1 => by
    obtain ⟨h1, xs, ys, h2, h3, h4⟩ := rot_at h hp hne k
    obtain ⟨_, g1, xs', ys', g2, g3, g4⟩ := rot_step (eIter_inv h true a b k) (by rw [eIter_len]; exact hp) xs ys h2 h3 h1
    exact ⟨g1, xs', ys', g2, g3, by rw [g4, h4]; omega⟩
/-- Nothing new in a message that was seen. -/
theorem seen_same {U : Int} {t0 : Nat} {S : ES} (h : Inv U t0 S) {a b : Int} (hp : pairB S.acc.length a b = true) {m : EM} {q : List EM} (hm : (S.ln a b).ms = m :: q) (hs : Seen S a b m) :
    eHave (eDeliver S a b false true).2 b = eHave S b ∧ eFly (eDeliver S a b false true).2 = eFly S := by
  have e := deliver_eq hp hm
  have r := Rel.deliver h a b false true
  rw [e] at r ⊢
  simp only [] at r ⊢
  have hb := pairB_right hp
  obtain ⟨h1, h2, h3⟩ := eTake_ln (S := eNext S a b (q ++ [m])) m (pairB_ne hp)
  obtain ⟨h4, _⟩ := eTake_ac (S := eNext S a b (q ++ [m])) (a := a) m hb
  have el : (eNext S a b (q ++ [m])).ln a b = { S.ln a b with ms := q ++ [m] } := by simp only [eNext, ES.putL_same]
  refine ⟨?_, ?_⟩
  · rw [eHave_ac (by rw [eTake_len]; exact hb), eHave_ac hb, h4, el]
    have : eGain { S.ln a b with ms := q ++ [m] } m = 0 := by
      unfold eGain
      simp only []
      have : (((S.ln a b).all.take m.l).drop (S.ln a b).rcv) = [] := List.drop_eq_nil_of_le (by rw [List.length_take]; have := hs.1; omega)
      rw [this]; rfl
    rw [this]
    simp only [eNext, ES.putL_ac, Int.add_zero]
  · unfold eFly
    rw [r.len]
    refine gsum_congr _ _ _ (fun x y hx hy => ?_)
    by_cases exy : x = y
    · rw [if_pos exy, if_pos exy]
    · rw [if_neg exy, if_neg exy]
      unfold EL.fly
      rw [r.all]
      by_cases n : (x : Int) = a ∧ (y : Int) = b
      · rw [n.1, n.2, h1, el]
        simp only []
        rw [Nat.max_eq_left hs.1]
      · rw [r.rcv _ _ n]
theorem once_facts {U : Int} {t0 : Nat} {S : ES} (h : Inv U t0 S) {a b : Int} (hp : pairB S.acc.length a b = true) (hne : (S.ln a b).ms ≠ []) :
    (∀ k, (eDeliver (eIter true S a b k) a b false true).1 = true) ∧ (∀ k, eHave (eIter true S a b (101 + k)) b = eHave (eIter true S a b 101) b ∧ eFly (eIter true S a b (101 + k)) = eFly (eIter true S a b 101)) := by
  refine ⟨fun k => ?_, fun k => ?_⟩
  · obtain ⟨h1, xs, ys, h2, h3, h4⟩ := rot_at h hp hne k
    exact (rot_step (eIter_inv h true a b k) (by rw [eIter_len]; exact hp) xs ys h2 h3 h1).1
  · induction k with
    | zero => exact ⟨rfl, rfl⟩
    | succ k ih =>
      obtain ⟨h1, xs, ys, h2, h3, h4⟩ := rot_at h hp hne (101 + k)
      have hq := h.sh.mq a b hp
      have hx : xs = [] := List.eq_nil_of_length_eq_zero (by omega)
      subst hx
      rw [List.nil_append] at h2
      cases hy : ys with
      | nil => rw [hy] at h2; exact absurd h2 h1
      | cons m q =>
        rw [hy] at h2 h3
        obtain ⟨g1, g2⟩ := seen_same (eIter_inv h true a b (101 + k)) (by rw [eIter_len]; exact hp) h2 (h3 m (by simp))
        exact ⟨g1.trans ih.1, g2.trans ih.2⟩
theorem once_no {S : ES} {a b : Int} (h : ¬ (pairB S.acc.length a b = true ∧ (S.ln a b).ms ≠ [])) : (eDeliver S a b false true).1 = false := by
  unfold eDeliver
  split
  · rfl
  · rename_i h1
    cases hm : (S.ln a b).ms with
    | nil => rfl
    | cons m q => exact absurd ⟨by simpa using h1, by rw [hm]; simp⟩ h

set_option maxHeartbeats 4000000 in
theorem once_any (r : Nat) (hr : r ≤ 255) (u : Int) (hu : 0 ≤ u) (hu2 : u ≤ 65535) {v : Value} {l : List EA} {w : World} (hl : RdA w v l) (hok : OKA l) (a b : Nat) (ha : a ≤ 255) (hb : b ≤ 255) :
    Calls Try.prog 6 #[.int .u8 r, .int .u16 u, v, .int .u8 a, .int .u8 b] w fun e w' => e = .returned (.bool true) ∧ Fr None' w w' := by
  have HL := Lib.hid hl
  have HO := Lib.hid hok
  clear hl hok
  go_enter Try.func6, Try.ntmps6
  go_wp2_with fail
  refine (head_any w).mono ?_
  rintro e w1 ⟨rfl, hf1⟩
  have Hf1 := Lib.hid hf1
  clear hf1
  go_wp2_with fail
  refine (open_any r hr u hu hu2 (HL.out.fr Hf1.out) HO.out).mono ?_
  rintro e w2 ⟨g, rfl, hE⟩
  have hlen := eOpen_len r u l
  generalize eOpen r u l = S at *
  have hm4 : r % 4 < 4 := Nat.mod_lt _ (by decide)
  generalize hN : 1 + r % 4 = n at *
  have hn4 : n ≤ 4 := by omega
  have hn1 : 1 ≤ n := by omega
  clear hN hm4
  have hn0 : ¬ (n : Int) = 0 := by omega
  have H2 := Lib.hid hE
  have Hlen := Lib.hid hlen
  clear hE hlen
  go_wp2_with fail
  go_quiet (fail)
  have H3 := Lib.hid (H2.out.frame ((Fr.refl None' w2).drewN nq))
  clear H2
  generalize w2.drewN nq = w3 at *
  have hf0 : 0 ≤ (a : Int) % (n : Int) := Int.emod_nonneg _ hn0
  have hf1 : (a : Int) % (n : Int) < n := Int.emod_lt_of_pos _ (by omega)
  have ht0 : 0 ≤ (b : Int) % (n : Int) := Int.emod_nonneg _ hn0
  have ht1 : (b : Int) % (n : Int) < n := Int.emod_lt_of_pos _ (by omega)
  generalize (a : Int) % (n : Int) = f at *
  generalize (b : Int) % (n : Int) = t at *
  have hbf : isB S.acc.length f = true := by rw [Hlen.out]; simp only [isB, decide_eq_true_eq]; omega
  have hbt : isB S.acc.length t = true := by rw [Hlen.out]; simp only [isB, decide_eq_true_eq]; omega
  go_wp2_with fail
  by_cases hc : pairB S.acc.length f t = true ∧ (S.ln f t).ms ≠ []
  · obtain ⟨F1, F2⟩ := once_facts H3.out.inv hc.1 hc.2
    have HF1 := Lib.hid F1
    obtain ⟨x, hx⟩ : ∃ x, x = eHave (eIter true S f t 101) t := ⟨_, rfl⟩
    obtain ⟨y, hy⟩ : ∃ y, y = eFly (eIter true S f t 101) := ⟨_, rfl⟩
    rw [← hx, ← hy] at F2
    have HF2 := Lib.hid F2
    clear F1 F2 hx hy hc
    refine (s_deliver H3.out (by decide) f t false true).mono ?_
    rw [show (eDeliver S f t false true).1 = true from HF1.out 0]
    rintro e w4 ⟨rfl, h'⟩
    have H4 := Lib.hid (show ESt u 150 w1 w4 g (eIter true S f t 1) from h')
    clear h' H3
    go_wp2_with fail
    go_loopw [17] (fun iv wr => ∃ k : Nat, k ≤ 100 ∧ iv = .int .i64 k ∧ ESt u 150 w1 wr g (eIter true S f t (k + 1))) (fun iv _ => 100 - (intOf iv).toNat)
    case atStart => exact ⟨0, by decide, rfl, H4.out⟩
    case round =>
      obtain ⟨k, hk, rfl, hE⟩ := hrel
      have HE := Lib.hid hE
      clear hE
      by_cases hlt : k < 100
      · have h1 : (k : Int) < 100 := by omega
        go_wp2_with fail
        refine (s_deliver HE.out (by decide) f t false true).mono ?_
        rw [HF1.out (k + 1)]
        rintro e w5 ⟨rfl, h'⟩
        have H5 := Lib.hid (show ESt u 150 w1 w5 g (eIter true S f t (k + 1 + 1)) from h')
        clear h'
        go_wp2_with fail
        go_roundw
        case rel => exact ⟨k + 1, hlt, by go_num, H5.out⟩
        case measure => simp [intOf]; omega
      · have hk100 : k = 100 := by omega
        subst hk100
        clear hlt H4
        go_wp2_with fail
        refine (s_have HE.out t).mono ?_
        rw [show eHave (eIter true S f t (100 + 1)) t = x from (HF2.out 0).1]
        rintro e w5 ⟨rfl, h'⟩
        have H5 := Lib.hid h'
        clear h'
        go_wp2_with fail
        refine (s_fly H5.out (by decide)).mono ?_
        rw [show eFly (eIter true S f t (100 + 1)) = y from (HF2.out 0).2]
        rintro e w6 ⟨rfl, h'⟩
        have H6 := Lib.hid h'
        clear h'
        go_wp2_with fail
        go_loopw [20] (fun iv wr => ∃ k : Nat, k ≤ 100 ∧ iv = .int .i64 k ∧ ESt u 150 w1 wr g (eIter true S f t (101 + k))) (fun iv _ => 100 - (intOf iv).toNat)
        case atStart => exact ⟨0, by decide, rfl, H6.out⟩
        case round =>
          clear H6 H5 HE
          obtain ⟨k, hk, rfl, hE⟩ := hrel
          have HE := Lib.hid hE
          clear hE
          by_cases hlt : k < 100
          · have h1 : (k : Int) < 100 := by omega
            go_wp2_with fail
            refine (s_deliver HE.out (by decide) f t false true).mono ?_
            rw [HF1.out (101 + k)]
            rintro e w7 ⟨rfl, h'⟩
            have H7 := Lib.hid (show ESt u 150 w1 w7 g (eIter true S f t (101 + (k + 1))) from h')
            clear h'
            go_wp2_with fail
            refine (s_have H7.out t).mono ?_
            rw [(HF2.out (k + 1)).1]
            rintro e w8 ⟨rfl, h'⟩
            have H8 := Lib.hid h'
            clear h'
            go_wp2_with fail
            refine (s_fly H8.out (by decide)).mono ?_
            rw [(HF2.out (k + 1)).2]
            rintro e w9 ⟨rfl, h'⟩
            have H9 := Lib.hid h'
            clear h'
            go_wp2_with fail
            go_roundw
            case rel => exact ⟨k + 1, hlt, by go_num, H9.out⟩
            case measure => simp [intOf]; omega
          · have hk100 : k = 100 := by omega
            subst hk100
            go_wp2_with fail
            go_ret
            exact ⟨rfl, Hf1.out.trans0 HE.out.fr⟩
  · have E := Lib.hid (once_no hc)
    clear hc
    refine (s_deliver H3.out (by decide) f t false true).mono ?_
    rw [E.out]
    rintro e w4 ⟨rfl, h'⟩
    have H4 := Lib.hid h'
    clear h' H3
    go_wp2_with fail
    go_ret
    exact ⟨rfl, Hf1.out.trans0 H4.out.fr⟩
set_option maxRecDepth 1000000 in
open Go.ChangeShapes Go.WideShapes in
theorem once_walk {H : Type} {enc : TypeId × Value → H} (W : World) {b0 : Nat} {v2 : Value} {d2 : DataW H} {p2 : List MemPlace} (a0 : Int) (w0 : (Lit.int .u8 a0).wf = true) (a1 : Int) (w1 : (Lit.int .u16 a1).wf = true)
    (o2 : Value.okWide Try.prog W .any b0 54 v2) (k2 : DataW.Trod enc Try.prog W 0 (fun _ => true) true 54 v2 d2 p2) (z2 : (d2.weights Try.prog 54).all (· ≤ reachBytes) = true) (a3 : Int) (w3 : (Lit.int .u8 a3).wf = true) (a4 : Int) (w4 : (Lit.int .u8 a4).wf = true) :
    Calls Try.prog 6 #[.int .u8 a0, .int .u16 a1, v2, .int .u8 a3, .int .u8 a4] W fun e w' => e = .returned (.bool true) ∧ Below W.heap.size W w' := by
  obtain ⟨l, hl, hm⟩ := open_acts W o2 k2 z2
  obtain ⟨r, rfl, hr⟩ := u8_range w0
  obtain ⟨h1, h2⟩ := u16_range w1
  obtain ⟨a, rfl, ha⟩ := u8_range w3
  obtain ⟨b, rfl, hb⟩ := u8_range w4
  exact (once_any r hr a1 h1 h2 hl hm a b ha hb).mono fun e w' h => fr_end h
end Go.Proofs.Ytdjaofkbgkifkaa

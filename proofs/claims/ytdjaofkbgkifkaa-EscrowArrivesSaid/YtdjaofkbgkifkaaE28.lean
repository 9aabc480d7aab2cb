/- Package escrow: EscrowArrives. -/
import Derived.Test.YtdjaofkbgkifkaaE27
set_option linter.unusedVariables false
set_option linter.unusedSimpArgs false
namespace Go.Proofs.Ytdjaofkbgkifkaa
open Go.RowKit

theorem fly_full {l : EL} (h : l.rcv = l.all.length) : l.fly = 0 := by unfold EL.fly; rw [h, List.drop_length]; rfl
theorem eFly_zero {S : ES} (h : ∀ x y, pairB S.acc.length x y = true → (S.ln x y).rcv = (S.ln x y).all.length) : eFly S = 0 := by
  unfold eFly
  rw [gsum_congr S.acc.length (fun _ _ => 0) _ (fun x y hx hy => by
    by_cases e : x = y
    · rw [if_pos e]
    · rw [if_neg e]; exact fly_full (h x y (nat_pair hx hy e)))]
  have z : ∀ l : List Nat, (l.map fun _ => (0 : Int)).sum = 0 := by intro l; induction l with | nil => rfl | cons x r ih => rw [List.map_cons, List.sum_cons, ih]; rfl
  unfold gsum
  simp only [z]
theorem arrives_plain {U : Int} {t0 : Nat} {T : ES} (h : Inv U t0 T) (hall : ∀ x y, pairB T.acc.length x y = true → (T.ln x y).ms = [] ∧ (T.ln x y).rcv = (T.ln x y).all.length) {f t : Int} (hp : pairB T.acc.length f t = true) (hu : 0 < eHave T f)
    (S1 S2 S3 : ES) (h1 : S1 = eEmpty (eSend T t f).2 t f) (h2 : S2 = (eGive S1 f t 1).2) (h3 : S3 = eEmpty (eSend S2 f t).2 f t) :
    (eSend T t f).1 = 0 ∧ (eGive S1 f t 1).1 = 0 ∧ eFly S2 = 1 ∧ eHave S2 t = eHave T t ∧ (eSend S2 f t).1 = 0 ∧ eDeliver (eSend S2 f t).2 f t false false = (true, S3) ∧ eFly S3 = 0 ∧ eHave S3 t = eHave T t + 1 := by
  have hne := pairB_ne hp
  have hps := pairB_swap hp
  obtain ⟨_, t1, i1⟩ := told_one h hps (hall t f hps).1
  rw [← h1] at t1 i1
  have r1 := t1.rel
  have hp1 : pairB S1.acc.length f t = true := by rw [r1.len]; exact hp
  have hconf : (S1.ln f t).conf = (S1.ln f t).all.length := by rw [t1.knows, r1.rcv f t (fun e => hne e.1), r1.all f t, (hall f t hp).2]
  have hu1 : 1 ≤ (S1.ac f).u := by
    rw [eHave_ac (pairB_left hp)] at hu
    have := r1.u; omega
  have e : eGive S1 f t 1 = (0, (S1.putA f ⟨(S1.ac f).u - 1, (S1.ac f).s, (S1.ac f).r⟩).putL f t { S1.ln f t with all := (S1.ln f t).all ++ [1] }) := by
    unfold eGive; rw [if_neg (by rw [hp1]; simp), if_neg (by omega), if_neg (by omega)]
  have i2 := eGive_inv i1 f t 1
  rw [← h2] at i2
  have hS2 : S2 = (S1.putA f ⟨(S1.ac f).u - 1, (S1.ac f).s, (S1.ac f).r⟩).putL f t { S1.ln f t with all := (S1.ln f t).all ++ [1] } := by rw [h2, e]
  have hf0 : 0 ≤ f ∧ 0 ≤ t := by simp only [pairB, decide_eq_true_eq] at hp; omega
  have a2 : S2.ac t = T.ac t := by
    rw [hS2, ES.putL_ac, ES.putA_other hf0.1 hf0.2 hne.symm]
    exact r1.ac t hf0.2 hne.symm
  have len2 : S2.acc.length = T.acc.length := by rw [hS2]; simp only [ES.putL_acc, ES.putA_len]; exact r1.len
  have hp2 : pairB S2.acc.length f t = true := by rw [len2]; exact hp
  have l2 : S2.ln f t = { S1.ln f t with all := (S1.ln f t).all ++ [1] } := by rw [hS2, ES.putL_same]
  have lo2 : ∀ x y, ¬ (x = f ∧ y = t) → S2.ln x y = S1.ln x y := fun x y n => by rw [hS2, ES.putL_other _ _ _ _ _ _ (ne_or n)]; rfl
  have full1 : ∀ x y, pairB T.acc.length x y = true → (S1.ln x y).rcv = (S1.ln x y).all.length := by
    intro x y q
    by_cases n : x = t ∧ y = f
    · obtain ⟨rfl, rfl⟩ := n; exact t1.got
    · rw [r1.rcv x y n, r1.all x y]; exact (hall x y q).2
  have fl1 : eFly S1 = 0 := eFly_zero (by rw [r1.len]; exact full1)
  have un := (putA_units (S := S1) (i := f) (pairB_left hp1) ⟨(S1.ac f).u - 1, (S1.ac f).s, (S1.ac f).r⟩)
  have un2 : eUnits S2 = eUnits S1 - 1 ∧ eSpent S2 = eSpent S1 := by
    rw [hS2]
    exact ⟨by show eUnits (S1.putA f _) = _; rw [un.1]; simp only []; omega, by show eSpent (S1.putA f _) = _; rw [un.2.1]; simp only []; omega⟩
  have fl2 : eFly S2 = 1 := by
    have x1 := i1.sum
    have x2 := i2.sum
    omega
  have ms2 : (S2.ln f t).ms = [] := by
    rw [l2]; show (S1.ln f t).ms = []
    rw [r1.ms f t (fun e => hne e.1)]; exact (hall f t hp).1
  obtain ⟨d3, t3, i3⟩ := told_one i2 hp2 ms2
  have es3 := eSend_empty hp2 ms2
  rw [← h3] at t3 i3 d3
  have r3 := t3.rel
  have flt : (S2.ln f t).fly = 1 := by
    rw [l2]
    simp only [EL.fly]
    rw [full1 f t hp, List.drop_append_of_le_length (Nat.le_refl _), List.drop_length]
    rfl
  have fl3 : eFly S3 = 0 := eFly_zero (by
    rw [r3.len, len2]
    intro x y q
    by_cases n : x = f ∧ y = t
    · obtain ⟨rfl, rfl⟩ := n; exact t3.got
    · rw [r3.rcv x y n, r3.all x y, lo2 x y n]; exact full1 x y q)
  refine ⟨by rw [eSend_empty hps (hall t f hps).1], by rw [e], fl2, ?_, by rw [es3], d3, fl3, ?_⟩
  · rw [eHave_ac (pairB_right hp2), eHave_ac (pairB_right hp), a2]
  · rw [eHave_ac (by rw [r3.len]; exact pairB_right hp2), eHave_ac (pairB_right hp), t3.gain, flt, a2]
def Done (T : ES) (n i k : Nat) : Prop := ∀ x y : Nat, x < n → y < n → x ≠ y → (x < i ∨ (x = i ∧ y < k)) → (T.ln x y).ms = [] ∧ (T.ln x y).rcv = (T.ln x y).all.length
theorem Done.step {U : Int} {t0 : Nat} {T T' : ES} {n i k : Nat} (h : Done T n i k) (r : Rel i k T T') (m : (T'.ln i k).ms = []) (g : (T'.ln i k).rcv = (T'.ln i k).all.length) : Done T' n i (k + 1) := by
  intro x y hx hy hne hc
  by_cases e : x = i ∧ y = k
  · rw [e.1, e.2]; exact ⟨m, g⟩
  · have n' : ¬ ((x : Int) = (i : Int) ∧ (y : Int) = (k : Int)) := fun q => e ⟨by omega, by omega⟩
    rw [r.ms x y n', r.rcv x y n', r.all x y]
    exact h x y hx hy hne (by omega)
theorem Done.skip {T : ES} {n i : Nat} (h : Done T n i i) : Done T n i (i + 1) := fun x y hx hy hne hc => h x y hx hy hne (by omega)
theorem Done.next {T : ES} {n i : Nat} (h : Done T n i n) : Done T n (i + 1) 0 := fun x y hx hy hne hc => h x y hx hy hne (by omega)
theorem Done.all {T : ES} {n : Nat} (h : Done T n n 0) (hl : T.acc.length = n) : ∀ x y, pairB T.acc.length x y = true → (T.ln x y).ms = [] ∧ (T.ln x y).rcv = (T.ln x y).all.length := by
  intro x y hp
  rw [hl] at hp
  simp only [pairB, decide_eq_true_eq] at hp
  obtain ⟨x, rfl⟩ := Int.eq_ofNat_of_zero_le hp.1
  obtain ⟨y, rfl⟩ := Int.eq_ofNat_of_zero_le hp.2.2.1
  exact h x y (by omega) (by omega) (fun e => hp.2.2.2.2 (by rw [e])) (by omega)

set_option maxHeartbeats 4000000 in
set_option maxRecDepth 100000 in
theorem arrives_any (r : Nat) (hr : r ≤ 255) (u : Int) (hu : 0 ≤ u) (hu2 : u ≤ 65535) {v : Value} {l : List EA} {w : World} (hl : RdA w v l) (hok : OKA l) (a b : Nat) (ha : a ≤ 255) (hb : b ≤ 255) :
    Calls Try.prog 7 #[.int .u8 r, .int .u16 u, v, .int .u8 a, .int .u8 b] w fun e w' => e = .returned (.bool true) ∧ Fr None' w w' := by
  have HL := Lib.hid hl
  have HO := Lib.hid hok
  clear hl hok
  go_enter Try.func7, Try.ntmps7
  go_wp2_with fail
  refine (head_any w).mono ?_
  rintro e w1 ⟨rfl, hf1⟩
  have Hf1 := Lib.hid hf1
  clear hf1
  go_wp2_with fail
  refine (open_any r hr u hu hu2 (HL.out.fr Hf1.out) HO.out).mono ?_
  rintro e w2 ⟨g, rfl, hE⟩
  have hlen := eOpen_len r u l
  generalize eOpen r u l = S at *
  have hm4 : r % 4 < 4 := Nat.mod_lt _ (by decide)
  generalize hN : 1 + r % 4 = n at *
  have hn4 : n ≤ 4 := by omega
  have hn1 : 1 ≤ n := by omega
  clear hN hm4
  have hn0 : ¬ (n : Int) = 0 := by omega
  have H2 := Lib.hid hE
  have Hlen := Lib.hid hlen
  clear hE hlen
  by_cases hn2 : n < 2
  · have hn3 : n = 1 := by omega
    subst hn3
    go_wp2_with fail
    go_ret
    exact ⟨rfl, Hf1.out.trans0 H2.out.fr⟩
  · have hnI : ¬ (n : Int) < 2 := by omega
    go_wp2_with fail
    go_loopw [14] (fun iv wr => ∃ (i : Nat) (T : ES), i ≤ n ∧ iv = .int .i64 i ∧ ESt u 150 w1 wr g T ∧ T.acc.length = n ∧ Done T n i 0) (fun iv _ => n - (intOf iv).toNat)
    case atStart => exact ⟨0, S, Nat.zero_le _, rfl, H2.out, Hlen.out, fun x y _ _ _ hc => by omega⟩
    case round =>
      obtain ⟨i, T, hi, rfl, hE, hl2, hD⟩ := hrel
      have HE := Lib.hid hE
      have HL2 := Lib.hid hl2
      have HD := Lib.hid hD
      clear hE hl2 hD
      by_cases hlt : i < n
      · have hiI : (i : Int) < n := by omega
        go_wp2_with fail
        go_loopw [15] (fun kv wr => ∃ (k : Nat) (T : ES), k ≤ n ∧ kv = .int .i64 k ∧ ESt u 150 w1 wr g T ∧ T.acc.length = n ∧ Done T n i k) (fun kv _ => n - (intOf kv).toNat)
        case atStart => exact ⟨0, T, Nat.zero_le _, rfl, HE.out, HL2.out, HD.out⟩
        case round =>
          clear HE HL2 HD
          clear T
          obtain ⟨k, T, hk, rfl, hE, hl2, hD⟩ := hrel
          have HE := Lib.hid hE
          have HL2 := Lib.hid hl2
          have HD := Lib.hid hD
          clear hE hl2 hD
          by_cases hkl : k < n
          · have hkI : (k : Int) < n := by omega
            by_cases hik : k = i
            · subst hik
              go_wp2_with fail
              go_roundw
              case rel => exact ⟨k + 1, T, hkl, by go_num, HE.out, HL2.out, HD.out.skip⟩
              case measure => simp [intOf]; omega
            · have hne : ¬ (i : Int) = k := by omega
              have hne2 : ((i : Int) == (k : Int)) = false := by simpa using hne
              have hp : pairB T.acc.length (i : Int) (k : Int) = true := by rw [HL2.out]; exact nat_pair hlt hkl (fun e => hik e.symm)
              obtain ⟨q1, q2, q3, _⟩ := told_all HE.out.inv hp
              have Q1 := Lib.hid q1
              have Q2 := Lib.hid q2
              have Q3 := Lib.hid q3
              clear q1 q2 q3 hp
              go_wp2_with fail
              refine (s_empty HE.out (by decide) i k).mono ?_
              rintro e w4 ⟨rfl, h'⟩
              have H4 := Lib.hid h'
              clear h'
              go_wp2_with fail
              refine (s_send H4.out i k).mono ?_
              rw [Q1.out]
              rintro e w5 ⟨rfl, h'⟩
              have H5 := Lib.hid h'
              clear h'
              go_wp2_with fail
              refine (s_empty H5.out (by decide) i k).mono ?_
              rintro e w6 ⟨rfl, h'⟩
              have H6 := Lib.hid h'
              clear h'
              go_wp2_with fail
              go_roundw
              case rel => exact ⟨k + 1, _, hkl, by go_num, H6.out, by rw [Q2.out.len]; exact HL2.out, HD.out.step (U := u) (t0 := 150) Q2.out Q3.out.none Q3.out.got⟩
              case measure => simp [intOf]; omega
          · have hkn : k = n := by omega
            subst hkn
            go_wp2_with fail
            go_roundw
            case rel => exact ⟨i + 1, T, hlt, by go_num, HE.out, HL2.out, HD.out.next⟩
            case measure => simp [intOf]; omega
      · have hin : i = n := by omega
        subst hin
        have hall := HD.out.all HL2.out
        have hz : eFly T = 0 := eFly_zero (fun x y q => (hall x y q).2)
        have HZ := Lib.hid hz
        have HAll := Lib.hid hall
        clear hz hall HD hlt
        go_wp2_with fail
        refine (s_fly HE.out (by decide)).mono ?_
        rw [HZ.out]
        rintro e w4 ⟨rfl, h'⟩
        have H4 := Lib.hid h'
        clear h'
        go_wp2_with fail
        go_quiet (fail)
        have H3 := Lib.hid (H4.out.frame ((Fr.refl None' w4).drewN nq))
        clear H4 H2 HE
        generalize w4.drewN nq = w3 at *
        have hf0 : 0 ≤ (a : Int) % (i : Int) := Int.emod_nonneg _ hn0
        have hf1 : (a : Int) % (i : Int) < i := Int.emod_lt_of_pos _ (by omega)
        have ht0 : 0 ≤ (b : Int) % (i : Int) := Int.emod_nonneg _ hn0
        have ht1 : (b : Int) % (i : Int) < i := Int.emod_lt_of_pos _ (by omega)
        generalize (a : Int) % (i : Int) = f at *
        generalize (b : Int) % (i : Int) = t at *
        by_cases hft : f = t
        · subst hft
          go_wp2_with fail
          go_ret
          exact ⟨rfl, Hf1.out.trans0 H3.out.fr⟩
        · have hft2 : (f == t) = false := by simpa using hft
          have hp : pairB T.acc.length f t = true := by
            rw [HL2.out]
            simp only [pairB, decide_eq_true_eq]
            exact ⟨hf0, hf1, ht0, ht1, hft⟩
          have hx0 : 0 ≤ eHave T f := by rw [eHave_ac (pairB_left hp)]; exact (H3.out.inv.sh.ac (pairB_left hp)).1
          obtain ⟨x, hx⟩ : ∃ x, x = eHave T f := ⟨_, rfl⟩
          rw [← hx] at hx0
          have Hx := Lib.hid hx
          clear hx
          go_wp2_with fail
          refine (s_have H3.out f).mono ?_
          rw [← Hx.out]
          rintro e w5 ⟨rfl, h'⟩
          have H5 := Lib.hid h'
          clear h' H3
          by_cases hxz : x = 0
          · subst hxz
            go_wp2_with fail
            go_ret
            exact ⟨rfl, Hf1.out.trans0 H5.out.fr⟩
          · have hxz2 : (x == 0) = false := by simpa using hxz
            obtain ⟨S1, hS1⟩ : ∃ S1, S1 = eEmpty (eSend T t f).2 t f := ⟨_, rfl⟩
            obtain ⟨S2, hS2⟩ : ∃ S2, S2 = (eGive S1 f t 1).2 := ⟨_, rfl⟩
            obtain ⟨S3, hS3⟩ : ∃ S3, S3 = eEmpty (eSend S2 f t).2 f t := ⟨_, rfl⟩
            obtain ⟨g1, g2, g3, g4, g5, g6, g7, g8⟩ := arrives_plain H5.out.inv HAll.out hp (by rw [← Hx.out]; omega) S1 S2 S3 hS1 hS2 hS3
            have hyb := H5.out.inv.bound (pairB_right hp)
            rw [← eHave_ac (pairB_right hp)] at hyb
            obtain ⟨y, hy⟩ : ∃ y, y = eHave T t := ⟨_, rfl⟩
            rw [← hy] at g4 g8 hyb
            have hUU := H5.out.hU
            have hw : wrap64 (y + 1) = y + 1 := w64 (by omega) (by omega)
            have Hy := Lib.hid hy
            have G1 := Lib.hid g1
            have G2 := Lib.hid g2
            have G3 := Lib.hid g3
            have G4 := Lib.hid g4
            have G5 := Lib.hid g5
            have G6 := Lib.hid g6
            have G7 := Lib.hid g7
            have G8 := Lib.hid g8
            have HS1 := Lib.hid hS1
            have HS2 := Lib.hid hS2
            have HS3 := Lib.hid hS3
            clear g1 g2 g3 g4 g5 g6 g7 g8 hS1 hS2 hS3 hy hyb hUU
            go_wp2_with fail
            refine (s_have H5.out t).mono ?_
            rw [← Hy.out]
            rintro e w6 ⟨rfl, h'⟩
            have H6 := Lib.hid h'
            clear h' H5
            go_wp2_with fail
            refine (s_send H6.out t f).mono ?_
            rw [G1.out]
            rintro e w7 ⟨rfl, h'⟩
            have H7 := Lib.hid h'
            clear h' H6
            go_wp2_with fail
            refine (s_empty H7.out (by decide) t f).mono ?_
            rw [← HS1.out]
            rintro e w8 ⟨rfl, h'⟩
            have H8 := Lib.hid h'
            clear h' H7
            go_wp2_with fail
            refine (s_give H8.out (by decide) f t 1).mono ?_
            rw [G2.out, ← HS2.out]
            rintro e w9 ⟨rfl, h'⟩
            have H9 := Lib.hid h'
            clear h' H8
            go_wp2_with fail
            refine (s_fly H9.out (by decide)).mono ?_
            rw [G3.out]
            rintro e w10 ⟨rfl, h'⟩
            have H10 := Lib.hid h'
            clear h' H9
            go_wp2_with fail
            refine (s_have H10.out t).mono ?_
            rw [G4.out]
            rintro e w11 ⟨rfl, h'⟩
            have H11 := Lib.hid h'
            clear h' H10
            go_wp2_with fail
            refine (s_send H11.out f t).mono ?_
            rw [G5.out]
            rintro e w12 ⟨rfl, h'⟩
            have H12 := Lib.hid h'
            clear h' H11
            go_wp2_with fail
            refine (s_deliver H12.out (by decide) f t false false).mono ?_
            rw [G6.out]
            rintro e w13 ⟨rfl, h'⟩
            have H13 := Lib.hid h'
            clear h' H12
            go_wp2_with fail
            refine (s_fly H13.out (by decide)).mono ?_
            rw [G7.out]
            rintro e w14 ⟨rfl, h'⟩
            have H14 := Lib.hid h'
            clear h' H13
            go_wp2_with fail
            refine (s_have H14.out t).mono ?_
            rw [G8.out]
            rintro e w15 ⟨rfl, h'⟩
            have H15 := Lib.hid h'
            clear h' H14
            go_wp2_with fail
            go_ret
            exact ⟨rfl, Hf1.out.trans0 H15.out.fr⟩
set_option maxRecDepth 1000000 in
open Go.ChangeShapes Go.WideShapes in
theorem arrives_walk {H : Type} {enc : TypeId × Value → H} (W : World) {b0 : Nat} {v2 : Value} {d2 : DataW H} {p2 : List MemPlace} (a0 : Int) (w0 : (Lit.int .u8 a0).wf = true) (a1 : Int) (w1 : (Lit.int .u16 a1).wf = true)
    (o2 : Value.okWide Try.prog W .any b0 54 v2) (k2 : DataW.Trod enc Try.prog W 0 (fun _ => true) true 54 v2 d2 p2) (z2 : (d2.weights Try.prog 54).all (· ≤ reachBytes) = true) (a3 : Int) (w3 : (Lit.int .u8 a3).wf = true) (a4 : Int) (w4 : (Lit.int .u8 a4).wf = true) :
    Calls Try.prog 7 #[.int .u8 a0, .int .u16 a1, v2, .int .u8 a3, .int .u8 a4] W fun e w' => e = .returned (.bool true) ∧ Below W.heap.size W w' := by
  obtain ⟨l, hl, hm⟩ := open_acts W o2 k2 z2
  obtain ⟨r, rfl, hr⟩ := u8_range w0
  obtain ⟨h1, h2⟩ := u16_range w1
  obtain ⟨a, rfl, ha⟩ := u8_range w3
  obtain ⟨b, rfl, hb⟩ := u8_range w4
  exact (arrives_any r hr a1 h1 h2 hl hm a b ha hb).mono fun e w' h => fr_end h
end Go.Proofs.Ytdjaofkbgkifkaa

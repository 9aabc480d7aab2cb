/- Package escrow against the reference: the law's walk. -/
import Derived.Test.YtdjaofkbgkifkaaE50
set_option linter.unusedVariables false
set_option linter.unusedSimpArgs false
namespace Go.Proofs.Ytdjaofkbgkifkaa
open Go.RowKit

set_option maxHeartbeats 40000000 in
set_option maxRecDepth 100000 in
theorem match_ok (n : Nat) (u : Int) (h1 : 1 ≤ n) (h8 : n ≤ 8) (hu : 0 ≤ u) (hu2 : u ≤ 1000000000) {v : Value} {l : List EA} {w : World} (hl : RdA w v l) (hok : OKA l) :
    Calls Try.prog 4 #[.int .i64 n, .int .i64 u, v] w fun e w' => e = .returned (.bool true) ∧ Fr None' w w' := by
  obtain ⟨A, cnt, cap, rfl, hn, hlen, _⟩ := id hl
  have HL := Lib.hid hl
  have HO := Lib.hid hok
  have Hn := Lib.hid hn
  clear hl hok hn
  go_enter Try.func4, Try.ntmps4
  go_wp2_with fail
  refine (head_any w).mono ?_
  rintro e w1 ⟨rfl, hf1⟩
  have Hf1 := Lib.hid hf1
  clear hf1
  go_wp2_with fail
  refine (enew_ok n u w1 h1 h8 hu hu2).mono ?_
  rintro e w2 ⟨gx, rfl, hE, hf2⟩
  have HE := Lib.hid hE
  have Hf2 := Lib.hid hf2
  clear hE hf2
  go_wp2_with fail
  refine (rnew_ok n u w2 h1 h8 hu hu2).mono ?_
  rintro e w3 ⟨gy, rfl, hR, hf3⟩
  have hM : Mix u (2 * 0) w1 w3 gx (eRun (eNew n u) (l.take 0)) gy (eRun (eNew n u) (l.take 0)) := by
    have s2 := Hf2.out.size
    have s3 := hf3.size
    exact ⟨⟨_, _, HE.out.fr hf3 (fun _ _ h => h), hR, fun k h1 h2 => by omega, fun k hk => ⟨hk.1, Nat.lt_of_lt_of_le hk.2 s3⟩, fun k hk => ⟨Nat.le_trans s2 hk.1, hk.2⟩⟩, eNew_inv h1 h8 hu _, eNew_inv h1 h8 hu _, Hf2.out.trans0 hf3, hu2⟩
  have HM0 := Lib.hid hM
  clear hM HE Hf2 hR hf3 h1 h8 hu hu2
  as_aux_lemma =>
   go_wp2_with fail
   go_loopw [12] (fun iv wr => ∃ k : Nat, k ≤ cnt ∧ k ≤ 150 ∧ iv = .int .i64 (k : Int) ∧ Mix u (2 * k) w1 wr gx (eRun (eNew n u) (l.take k)) gy (eRun (eNew n u) (l.take k))) (fun iv _ => cnt - (intOf iv).toNat)
   case atStart => exact ⟨0, Nat.zero_le _, Nat.zero_le _, rfl, HM0.out⟩
   case round =>
     clear HM0
     obtain ⟨k, hk, hk2, rfl, hM⟩ := hrel
     have hfw := Hf1.out.trans0 hM.fr
     have Hfw := Lib.hid hfw
     have HM := Lib.hid hM
     by_cases hlt : k < cnt ∧ k < 150
     · obtain ⟨x, hx⟩ : ∃ x, l[k]? = some x := ⟨l[k]'(by rw [← Hn.out]; exact hlt.1), List.getElem?_eq_getElem _⟩
       obtain ⟨ga, off, rfl, b0, b1, b2, b3, b4, b5⟩ := HL.out.get hx
       have hxu := HO.out x (List.mem_of_getElem? hx)
       have Hb1 := Lib.hid b1
       have Hb2 := Lib.hid b2
       have c0 := hfw.cell b0 id
       have c1 := hfw.cell b1 id
       have c2 := hfw.cell b2 id
       have c3 := hfw.cell b3 id
       have c4 := hfw.cell b4 id
       have c5 := hfw.cell b5 id
       have Hb := Lib.hid (show _ ∧ _ ∧ _ ∧ _ ∧ _ ∧ _ from ⟨b0, b1, b2, b3, b4, b5⟩)
       have h1 : (k : Int) < cnt := by omega
       have h2 : (k : Int) < 150 := by omega
       have h3 : ¬ (k : Int) < 0 := by omega
       have Hx := Lib.hid (eRun_take (S := eNew n u) hx)
       have hd := hlt.1
       have hd2 := hlt.2
       have hdo := x_do hM (by omega) x hxu
       obtain ⟨⟨⟨r1, r2⟩, S'⟩, hdd⟩ : ∃ r, eDo (eRun (eNew n u) (l.take k)) x = r := ⟨_, rfl⟩
       rw [hdd] at hdo
       have Hdo := Lib.hid hdo
       have Hdd := Lib.hid hdd
       have hrr : (r2 != r2) = false := by simp
       clear hx hlt b0 b1 b2 b3 b4 b5 hM hfw hdo hdd
       as_aux_lemma =>
        go_wp2_with fail
        refine Hdo.out.mono ?_
        rintro e w4 ⟨rfl, hM4⟩
        have hf4 := Hf1.out.trans0 hM4.fr
        have hw := y_want hM4 (by omega) x hxu
        rw [Hdd.out] at hw
        have Hw := Lib.hid hw
        obtain ⟨b0, b1, b2, b3, b4, b5⟩ := Hb.out
        have c0 := hf4.cell b0 id
        have c1 := hf4.cell b1 id
        have c2 := hf4.cell b2 id
        have c3 := hf4.cell b3 id
        have c4 := hf4.cell b4 id
        have c5 := hf4.cell b5 id
        clear b0 b1 b2 b3 b4 b5 hM4 hf4 hw Hdo HM
        as_aux_lemma =>
         go_wp2_with fail
         refine Hw.out.mono ?_
         rintro e w5 ⟨rfl, hM5⟩
         have hf5 := Hf1.out.trans0 hM5.fr
         have H5 := Lib.hid (hM5.frame (Fr.drew (Fr.refl None' w5)))
         have d1 := hf5.cell Hb1.out id
         have d2 := hf5.cell Hb2.out id
         have hsp := x_spent H5.out
         obtain ⟨sp, hsp'⟩ : ∃ sp, sp = eSpent S' := ⟨_, rfl⟩
         obtain ⟨fl, hfl'⟩ : ∃ fl, fl = eFly S' := ⟨_, rfl⟩
         obtain ⟨va, hva'⟩ : ∃ va, va = eHave S' x.a := ⟨_, rfl⟩
         obtain ⟨vb, hvb'⟩ : ∃ vb, vb = eHave S' x.b := ⟨_, rfl⟩
         have Hsp := Lib.hid hsp'
         have Hfl := Lib.hid hfl'
         have Hva := Lib.hid hva'
         have Hvb := Lib.hid hvb'
         have ht5 : 2 * k + 1 + 1 ≤ 1000000 := by omega
         clear hM5 hf5 hsp hsp' hfl' hva' hvb' c0 c1 c2 c3 c4 c5 Hw
         as_aux_lemma =>
          go_wp2_with fail
          go_region_held3 (fun W => W.cell? ⟨ga, off + k * 6 + 1, none⟩ = some (.int .i64 x.a) ∧ W.cell? ⟨ga, off + k * 6 + 2, none⟩ = some (.int .i64 x.b))
            (first | exact ⟨d1, d2⟩ | exact ⟨p1, p2⟩ | exact ⟨q1, q2⟩ | exact ⟨r1', r2'⟩ | exact ⟨s1, s2⟩ | exact ⟨t1, t2⟩ | exact ⟨i1, i2⟩ | exact ⟨j1, j2⟩ | exact ⟨k1, k2⟩)
            (first | (go_at_call 40; refine (y_have H12.out x.b).mono ?_
                      rw [← Hvb.out]
                      rintro e w13 ⟨rfl, hM13, hf13⟩
                      have k1 := hf13.cell j1 id
                      have k2 := hf13.cell j2 id
                      have H13 := Lib.hid hM13
                      clear hM13 hf13)
                   | (go_at_call 31; refine (x_have H11.out x.b).mono ?_
                      rw [← Hvb.out]
                      rintro e w12 ⟨rfl, hM12, hf12⟩
                      have j1 := hf12.cell i1 id
                      have j2 := hf12.cell i2 id
                      have H12 := Lib.hid hM12
                      clear hM12 hf12)
                   | (go_at_call 40; refine (y_have H10.out x.a).mono ?_
                      rw [← Hva.out]
                      rintro e w11 ⟨rfl, hM11, hf11⟩
                      have i1 := hf11.cell t1 id
                      have i2 := hf11.cell t2 id
                      have H11 := Lib.hid hM11
                      clear hM11 hf11)
                   | (go_at_call 31; refine (x_have H9.out x.a).mono ?_
                      rw [← Hva.out]
                      rintro e w10 ⟨rfl, hM10, hf10⟩
                      have t1 := hf10.cell s1 id
                      have t2 := hf10.cell s2 id
                      have H10 := Lib.hid hM10
                      clear hM10 hf10)
                   | (go_at_call 39; refine (y_fly H8.out ht5).mono ?_
                      rw [← Hfl.out]
                      rintro e w9 ⟨rfl, hM9, hf9⟩
                      have s1 := hf9.cell r1' id
                      have s2 := hf9.cell r2' id
                      have H9 := Lib.hid hM9
                      clear hM9 hf9)
                   | (go_at_call 32; refine (x_fly H7.out ht5).mono ?_
                      rw [← Hfl.out]
                      rintro e w8 ⟨rfl, hM8, hf8⟩
                      have r1' := hf8.cell q1 id
                      have r2' := hf8.cell q2 id
                      have H8 := Lib.hid hM8
                      clear hM8 hf8)
                   | (go_at_call 38; refine (y_spent H6.out).mono ?_
                      rw [← Hsp.out]
                      rintro e w7 ⟨rfl, hM7, hf7⟩
                      have q1 := hf7.cell p1 id
                      have q2 := hf7.cell p2 id
                      have H7 := Lib.hid hM7
                      clear hM7 hf7)
                   | (go_at_call 33; refine (x_spent H5.out).mono ?_
                      rw [← Hsp.out]
                      rintro e w6 ⟨rfl, hM6, hf6⟩
                      have p1 := hf6.cell d1 id
                      have p2 := hf6.cell d2 id
                      have H6 := Lib.hid hM6
                      clear hM6 hf6))
          go_wp2_with fail
          go_roundw
          case rel =>
            refine ⟨k + 1, hd, hd2, by go_num, ?_⟩
            rw [Hx.out, Hdd.out]
            exact H13.out
          case measure => simp [intOf]; omega
     · by_cases hkn : k < cnt
       · have h1 : (k : Int) < cnt := by omega
         have h2 : ¬ (k : Int) < 150 := by omega
         clear hlt hM hfw
         go_wp2_with fail
         go_ret
         exact ⟨rfl, Hfw.out⟩
       · have h1 : ¬ (k : Int) < cnt := by omega
         clear hlt hM hfw
         go_wp2_with fail
         go_ret
         exact ⟨rfl, Hfw.out⟩
set_option maxHeartbeats 40000000 in
set_option maxRecDepth 100000 in
theorem match_bad (n u : Int) (hbad : n < 1 ∨ 8 < n ∨ u < 0 ∨ 1000000000 < u) {v : Value} {l : List EA} {w : World} (hl : RdA w v l) (hok : OKA l) :
    Calls Try.prog 4 #[.int .i64 n, .int .i64 u, v] w fun e w' => e = .returned (.bool true) ∧ Fr None' w w' := by
  obtain ⟨A, cnt, cap, rfl, hn, hlen, _⟩ := id hl
  have HL := Lib.hid hl
  have HO := Lib.hid hok
  have Hn := Lib.hid hn
  clear hl hok hn
  go_enter Try.func4, Try.ntmps4
  go_wp2_with fail
  refine (head_any w).mono ?_
  rintro e w1 ⟨rfl, hf1⟩
  have Hf1 := Lib.hid hf1
  clear hf1
  go_wp2_with fail
  refine (enew_bad n u w1 hbad).mono ?_
  rintro e w2 ⟨rfl, rfl⟩
  go_wp2_with fail
  refine (rnew_bad n u w2 hbad).mono ?_
  rintro e w3 ⟨rfl, rfl⟩
  clear hbad
  as_aux_lemma =>
   go_wp2_with fail
   go_loopw [12] (fun iv wr => ∃ k : Nat, k ≤ cnt ∧ k ≤ 150 ∧ iv = .int .i64 (k : Int) ∧ Fr None' w wr) (fun iv _ => cnt - (intOf iv).toNat)
   case atStart => exact ⟨0, Nat.zero_le _, Nat.zero_le _, rfl, Hf1.out⟩
   case round =>
     obtain ⟨k, hk, hk2, rfl, hfw⟩ := hrel
     have Hfw := Lib.hid hfw
     by_cases hlt : k < cnt ∧ k < 150
     · obtain ⟨x, hx⟩ : ∃ x, l[k]? = some x := ⟨l[k]'(by rw [← Hn.out]; exact hlt.1), List.getElem?_eq_getElem _⟩
       obtain ⟨ga, off, rfl, b0, b1, b2, b3, b4, b5⟩ := HL.out.get hx
       have hxu := HO.out x (List.mem_of_getElem? hx)
       have Hb1 := Lib.hid b1
       have Hb2 := Lib.hid b2
       have c0 := hfw.cell b0 id
       have c1 := hfw.cell b1 id
       have c2 := hfw.cell b2 id
       have c3 := hfw.cell b3 id
       have c4 := hfw.cell b4 id
       have c5 := hfw.cell b5 id
       have Hb := Lib.hid (show _ ∧ _ ∧ _ ∧ _ ∧ _ ∧ _ from ⟨b0, b1, b2, b3, b4, b5⟩)
       have h1 : (k : Int) < cnt := by omega
       have h2 : (k : Int) < 150 := by omega
       have h3 : ¬ (k : Int) < 0 := by omega
       have hd := hlt.1
       have hd2 := hlt.2
       clear hx hlt b0 b1 b2 b3 b4 b5 hfw
       as_aux_lemma =>
        go_wp2_with fail
        refine (do_nil x hxu wr).mono ?_
        rintro e w4 ⟨rfl, hf4'⟩
        have hf4 := Hfw.out.trans0 hf4'
        have Hf4 := Lib.hid hf4
        obtain ⟨b0, b1, b2, b3, b4, b5⟩ := Hb.out
        have c0 := hf4.cell b0 id
        have c1 := hf4.cell b1 id
        have c2 := hf4.cell b2 id
        have c3 := hf4.cell b3 id
        have c4 := hf4.cell b4 id
        have c5 := hf4.cell b5 id
        clear b0 b1 b2 b3 b4 b5 hf4 hf4'
        as_aux_lemma =>
         go_wp2_with fail
         refine (want_nil x hxu w4).mono ?_
         rintro e w5 ⟨rfl, hf5'⟩
         have hf5 := Hf4.out.trans0 hf5'
         have Hf5 := Lib.hid hf5
         have d1 := hf5.cell Hb1.out id
         have d2 := hf5.cell Hb2.out id
         generalize nilA x.k = nk
         clear hf5 hf5' c0 c1 c2 c3 c4 c5
         as_aux_lemma =>
          go_wp2_with fail
          go_region_held3 (fun W => W.cell? ⟨ga, off + k * 6 + 1, none⟩ = some (.int .i64 x.a) ∧ W.cell? ⟨ga, off + k * 6 + 2, none⟩ = some (.int .i64 x.b))
            (exact ⟨d1, d2⟩)
            (first | (go_at_call 40; refine (rhave_nil _ _).mono ?_
                      rintro e w13 ⟨rfl, rfl⟩)
                   | (go_at_call 31; refine (have_nil _ _).mono ?_
                      rintro e w12 ⟨rfl, rfl⟩)
                   | (go_at_call 39; refine (rflying_nil _).mono ?_
                      rintro e w9 ⟨rfl, rfl⟩)
                   | (go_at_call 32; refine (flying_nil _).mono ?_
                      rintro e w8 ⟨rfl, rfl⟩)
                   | (go_at_call 38; refine (rspent_nil _).mono ?_
                      rintro e w7 ⟨rfl, rfl⟩)
                   | (go_at_call 33; refine (spent_nil _).mono ?_
                      rintro e w6 ⟨rfl, rfl⟩))
          go_wp2_with fail
          go_roundw
          case rel => exact ⟨k + 1, hd, hd2, by go_num, Hf5.out.drew⟩
          case measure => simp [intOf]; omega
     · by_cases hkn : k < cnt
       · have h1 : (k : Int) < cnt := by omega
         have h2 : ¬ (k : Int) < 150 := by omega
         clear hlt hfw
         go_wp2_with fail
         go_ret
         exact ⟨rfl, Hfw.out⟩
       · have h1 : ¬ (k : Int) < cnt := by omega
         clear hlt hfw
         go_wp2_with fail
         go_ret
         exact ⟨rfl, Hfw.out⟩
theorem matches_any (n u : Int) {v : Value} {l : List EA} {w : World} (hl : RdA w v l) (hok : OKA l) :
    Calls Try.prog 4 #[.int .i64 n, .int .i64 u, v] w fun e w' => e = .returned (.bool true) ∧ Fr None' w w' := by
  by_cases h : n < 1 ∨ 8 < n ∨ u < 0 ∨ 1000000000 < u
  · exact match_bad n u h hl hok
  · obtain ⟨k, rfl⟩ := Int.eq_ofNat_of_zero_le (show 0 ≤ n by omega)
    exact match_ok k u (by omega) (by omega) (by omega) (by omega) hl hok
set_option maxRecDepth 1000000 in
open Go.ChangeShapes Go.WideShapes in
theorem matches_walk {H : Type} {enc : TypeId × Value → H} (W : World) {b0 : Nat} {v2 : Value} {d2 : DataW H} {p2 : List MemPlace} (a0 : Int) (w0 : (Lit.int .i64 a0).wf = true) (a1 : Int) (w1 : (Lit.int .i64 a1).wf = true)
    (o2 : Value.okWide Try.prog W .any b0 54 v2) (k2 : DataW.Trod enc Try.prog W 0 (fun _ => true) true 54 v2 d2 p2) (z2 : (d2.weights Try.prog 54).all (· ≤ reachBytes) = true) :
    Calls Try.prog 4 #[.int .i64 a0, .int .i64 a1, v2] W fun e w' => e = .returned (.bool true) ∧ Below W.heap.size W w' := by
  obtain ⟨l, hl, hm⟩ := open_acts W o2 k2 z2
  exact (matches_any a0 a1 hl hm).mono fun e w' h => fr_end h
end Go.Proofs.Ytdjaofkbgkifkaa

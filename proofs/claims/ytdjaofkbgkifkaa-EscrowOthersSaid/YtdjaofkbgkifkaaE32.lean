/- Package escrow: EscrowOthers. -/
import Derived.Test.YtdjaofkbgkifkaaE31
set_option linter.unusedVariables false
set_option linter.unusedSimpArgs false
namespace Go.Proofs.Ytdjaofkbgkifkaa
open Go.RowKit

theorem Agree.have {X Y : ES} (h : Agree X Y) {i : Int} (hi : T01 i) : eHave X i = eHave Y i := by
  cases e : isB X.acc.length i with
  | true => rw [eHave_ac e, eHave_ac (by rw [← h.len]; exact e), h.ac i hi]
  | false => rw [eHave_no e, eHave_no (by rw [← h.len]; exact e)]
theorem Two.of {U : Int} {w0 w w' : World} {gx gy : Nat} {X Y : ES} (hx : ESt U 0 w0 w gx X) (hy : ESt U 0 w w' gy Y) : Two U 0 w0 w' gx X gy Y := by
  have s1 := hx.fr.size
  have s2 := hy.fr.size
  refine ⟨⟨Own w0.heap.size w, Own w.heap.size w', hx.is.fr hy.fr (fun _ _ h => h), hy.is, fun k h1 h2 => ?_, fun k hk => ⟨hk.1, Nat.lt_of_lt_of_le hk.2 s2⟩, fun k hk => ⟨Nat.le_trans s1 hk.1, hk.2⟩⟩, hx.inv, hy.inv, hx.fr.trans0 hy.fr, hx.hU⟩
  have := h1.2
  have := h2.1
  omega
/-- The half that replica 2 gets. -/
theorem half_facts {u k : Int} (hu : 0 ≤ u) (hk : 1 ≤ k) (hku : k ≤ u) (X1 X2 : ES) (h1 : X1 = (eGive (eNew 4 u) 0 2 k).2) (h2 : X2 = eEmpty (eSend X1 0 2).2 0 2) :
    (eGive (eNew 4 u) 0 2 k).1 = 0 ∧ (eSend X1 0 2).1 = 0 ∧ eDeliver (eSend X1 0 2).2 0 2 false false = (true, X2) := by
  have hI := eNew_inv (n := 4) (by decide) (by decide) hu 0
  have hp : pairB (eNew 4 u).acc.length 0 2 = true := by rw [eNew_len]; decide
  have ha : ((eNew 4 u).ac 0).u = u := rfl
  have hi1 := eGive_inv hI 0 2 k
  rw [← h1] at hi1
  have e : eGive (eNew 4 u) 0 2 k = (0, ((eNew 4 u).putA 0 ⟨((eNew 4 u).ac 0).u - k, ((eNew 4 u).ac 0).s, ((eNew 4 u).ac 0).r⟩).putL 0 2 { (eNew 4 u).ln 0 2 with all := ((eNew 4 u).ln 0 2).all ++ [k] }) := by
    unfold eGive; rw [if_neg (by rw [hp]; simp; omega), if_neg (by rw [ha]; omega), if_neg (by show ¬ 0 + 100 ≤ 0; omega)]
  have hp1 : pairB X1.acc.length 0 2 = true := by rw [h1, eGive_len, eNew_len]; decide
  have hm : (X1.ln 0 2).ms = [] := by rw [h1, e]; simp only [ES.putL_same]; rfl
  obtain ⟨d, _, _⟩ := told_one hi1 hp1 hm
  rw [← h2] at d
  exact ⟨by rw [e], by rw [eSend_empty hp1 hm], d⟩
theorem i64_and1 (n : Int) : bits .and .i64 n 1 = n % 2 := by
  have h1 : (BitVec.ofInt 64 1).toNat = 2 ^ 1 - 1 := by decide
  have key : (BitVec.ofInt 64 n &&& BitVec.ofInt 64 1).toNat = (n % ((2 ^ 64 : Nat) : Int)).toNat % 2 ^ 1 := by
    rw [BitVec.toNat_and, BitVec.toNat_ofInt, h1, Nat.and_two_pow_sub_one_eq_mod]
  show IntKind.i64.wrap ((BitVec.ofInt 64 n &&& BitVec.ofInt 64 1).toNat : Nat) = n % 2
  rw [key, IntKind.wrap_i64]
  omega
theorem six_cells {w : World} {g : Nat} {u0 u1 u2 u3 u4 u5 : Value} {T : TypeId} (h : w.heap[g]? = some (.cells #[u0, u1, u2, u3, u4, u5] T)) :
    w.cell? ⟨g, 0, none⟩ = some u0 ∧ w.cell? ⟨g, 1, none⟩ = some u1 ∧ w.cell? ⟨g, 2, none⟩ = some u2 ∧ w.cell? ⟨g, 3, none⟩ = some u3 ∧ w.cell? ⟨g, 4, none⟩ = some u4 ∧ w.cell? ⟨g, 5, none⟩ = some u5 := by
  refine ⟨?_, ?_, ?_, ?_, ?_, ?_⟩ <;> (rw [cell_of_row w g _ _ T (0, 0) h]; rfl)
/-- A call on the first, in a world in which blocks were made behind the two. -/
theorem t_do2 {U : Int} {t : Nat} {w0 wr w : World} {gx gy : Nat} {X Y : ES} (h : Two U t w0 wr gx X gy Y) (hf0 : Fr None' wr w) (ht : t ≤ 1000000) (x : EA) (hx : x.u ≤ 9223372036854775807) :
    Calls Try.prog 36 #[.pointer (some ⟨gx, 0, none⟩), .agg #[.int .i64 x.k, .int .i64 x.a, .int .i64 x.b, .int .i64 x.u, .bool x.lost, .bool x.again]] w fun e w' => e = .returned (.tuple #[.int .i64 (eDo X x).1.1, .bool (eDo X x).1.2]) ∧ Two U (t + 1) w0 w' gx (eDo X x).2 gy Y ∧ ∀ k, wr.heap.size ≤ k → k < w.heap.size → w'.heap[k]? = w.heap[k]? := by
  obtain ⟨Fx, Fy, h1, h2, h3, h4, h5⟩ := h.is
  refine (do_ok (h1.fr hf0 (fun _ _ h => h)) h.hU h.ix ht x hx).mono ?_
  rintro e w' ⟨he, hE, hf⟩
  have s0 := hf0.size
  have s1 := h.fr.size
  have s2 := hf.size
  refine ⟨he, ⟨⟨_, Fy, hE, (h2.fr hf0 (fun _ _ h => h)).fr hf (fun k hy hx => h3 k hx hy), fun k hx hy => ?_, fun k hx => ?_, fun k hy => ⟨(h5 k hy).1, by have := (h5 k hy).2; omega⟩⟩, eDo_inv h.ix x, h.iy.mono (Nat.le_succ t), (h.fr.trans0 hf0).trans hf (fun i hil hx => by have := (h4 i hx).1; omega), h.hU⟩, fun k hk1 hk2 => hf.block k hk2 (fun hx => by have := (h4 k hx).2; omega)⟩
  · rcases hx with hx | hx
    · exact h3 k hx hy
    · have := (h5 k hy).2; omega
  · rcases hx with hx | hx
    · exact ⟨(h4 k hx).1, by have := (h4 k hx).2; omega⟩
    · exact ⟨by omega, hx.2⟩
set_option maxHeartbeats 4000000 in
set_option maxRecDepth 100000 in
theorem others_any (u : Int) (hu : 0 ≤ u) (hu2 : u ≤ 65535) {v v2 : Value} {l l2 : List EA} {w : World} (hl : RdA w v l) (hok : OKA l) (hl2 : RdA w v2 l2) (hok2 : OKA l2) :
    Calls Try.prog 10 #[.int .u16 u, v, v2] w fun e w' => e = .returned (.bool true) ∧ Fr None' w w' := by
  obtain ⟨A, n, cap, rfl, hn, _, _⟩ := id hl
  obtain ⟨A2, n2, cap2, rfl, hn2, _, _⟩ := id hl2
  have HL := Lib.hid hl
  have HO := Lib.hid hok
  have HL2 := Lib.hid hl2
  have HO2 := Lib.hid hok2
  have Hn := Lib.hid hn
  have Hn2 := Lib.hid hn2
  clear hl hok hl2 hok2 hn hn2
  go_enter Try.func10, Try.ntmps10
  go_wp2_with fail
  refine (head_any w).mono ?_
  rintro e w1 ⟨rfl, hf1⟩
  have Hf1 := Lib.hid hf1
  clear hf1
  go_wp2_with fail
  refine (s_new 4 u w1 (by decide) (by decide) hu (by omega)).mono ?_
  rintro e w2 ⟨gx, rfl, hx⟩
  have Hx := Lib.hid hx
  clear hx
  go_wp2_with fail
  refine (s_new 4 u w2 (by decide) (by decide) hu (by omega)).mono ?_
  rintro e w3 ⟨gy, rfl, hy⟩
  have H3 := Lib.hid (Two.of Hx.out hy)
  clear hy Hx
  by_cases hh : 0 < u / 2
  · obtain ⟨X1, hX1⟩ : ∃ X1, X1 = (eGive (eNew 4 u) 0 2 (u / 2)).2 := ⟨_, rfl⟩
    obtain ⟨X2, hX2⟩ : ∃ X2, X2 = eEmpty (eSend X1 0 2).2 0 2 := ⟨_, rfl⟩
    obtain ⟨k1, k2, k3⟩ := half_facts hu (by omega) (by omega) X1 X2 hX1 hX2
    have K1 := Lib.hid k1
    have K2 := Lib.hid k2
    have K3 := Lib.hid k3
    have HX1 := Lib.hid hX1
    clear k1 k2 k3 hX1 hX2
    go_wp2_with fail
    refine (t_give H3.out (by decide) 0 2 (u / 2)).mono ?_
    rw [K1.out, ← HX1.out]
    rintro e w4 ⟨rfl, h'⟩
    have H4 := Lib.hid h'
    clear h'
    go_wp2_with fail
    refine (t_send H4.out 0 2).mono ?_
    rw [K2.out]
    rintro e w5 ⟨rfl, h'⟩
    have H5 := Lib.hid h'
    clear h'
    go_wp2_with fail
    refine (t_deliver H5.out (by decide) 0 2 false false).mono ?_
    rw [K3.out]
    rintro e w6 ⟨rfl, h'⟩
    have H6 := Lib.hid (Two.swap h')
    clear h'
    go_wp2_with fail
    refine (t_give H6.out (by decide) 0 2 (u / 2)).mono ?_
    rw [K1.out, ← HX1.out]
    rintro e w7 ⟨rfl, h'⟩
    have H7 := Lib.hid h'
    clear h'
    go_wp2_with fail
    refine (t_send H7.out 0 2).mono ?_
    rw [K2.out]
    rintro e w8 ⟨rfl, h'⟩
    have H8 := Lib.hid h'
    clear h'
    go_wp2_with fail
    refine (t_deliver H8.out (by decide) 0 2 false false).mono ?_
    rw [K3.out]
    rintro e w9 ⟨rfl, h'⟩
    have H9 := Lib.hid (Two.swap h')
    clear h'
    go_wp2_with fail
    go_loopw [13] (fun iv wr => ∃ (k : Nat) (X Y : ES), k ≤ n ∧ k ≤ 150 ∧ iv = .int .i64 k ∧ Two u (2 + 3 * k) w1 wr gx X gy Y ∧ Agree X Y) (fun iv _ => n - (intOf iv).toNat)
    case atStart => exact ⟨0, _, _, Nat.zero_le _, Nat.zero_le _, rfl, H9.out, Agree.refl _⟩
    case round =>
      obtain ⟨k, X, Y, hk, hk2, rfl, hE, hA⟩ := hrel
      have HE := Lib.hid hE
      have HA := Lib.hid hA
      have Hfr := Lib.hid (Hf1.out.trans0 hE.fr)
      clear hE hA H9
      by_cases hlt : k < n ∧ k < 150
      · obtain ⟨x, hx⟩ : ∃ x, l[k]? = some x := ⟨l[k]'(by rw [← Hn.out]; exact hlt.1), List.getElem?_eq_getElem _⟩
        obtain ⟨ga, off, rfl, c0, c1, c2, c3, c4, c5⟩ := (HL.out.fr Hfr.out).get hx
        have h1 : (k : Int) < n := by omega
        have h2 : (k : Int) < 150 := by omega
        have h3 : ¬ (k : Int) < 0 := by omega
        have hxu := HO.out x (List.mem_of_getElem? hx)
        have hd := hlt.1
        have hd2 := hlt.2
        have ba := i64_and1 x.a
        have bb := i64_and1 x.b
        have ta : T01 (x.a % 2) := by unfold T01; omega
        have tb : T01 (x.b % 2) := by unfold T01; omega
        obtain ⟨ra, rA⟩ := HA.out.op ⟨x.k, x.a % 2, x.b % 2, x.u, x.lost, x.again⟩ ta tb
        have RA := Lib.hid ra
        have RB := Lib.hid rA
        clear hlt hx ra rA
        go_wp2_with fail
        refine (t_do2 HE.out ((Fr.refl None' wr).alloc _) (by omega) ⟨x.k, x.a % 2, x.b % 2, x.u, x.lost, x.again⟩ hxu).mono ?_
        rintro e w10 ⟨rfl, h', hkeep⟩
        have hbox := (hkeep wr.heap.size (Nat.le_refl _) (by simp)).trans (heap_alloc_new wr _)
        obtain ⟨p0, p1, p2, p3, p4, p5⟩ := six_cells hbox
        have H10 := Lib.hid h'.swap
        clear h' hkeep hbox c0 c1 c2 c3 c4 c5 ba bb
        go_wp2_with fail
        refine (t_do H10.out (by omega) ⟨x.k, x.a % 2, x.b % 2, x.u, x.lost, x.again⟩ hxu).mono ?_
        rw [← RA.out]
        rintro e w11 ⟨rfl, h'⟩
        have H11 := Lib.hid h'
        clear h' H10 p0 p1 p2 p3 p4 p5
        by_cases hm : k < n2
        · obtain ⟨z, hz⟩ : ∃ z, l2[k]? = some z := ⟨l2[k]'(by rw [← Hn2.out]; exact hm), List.getElem?_eq_getElem _⟩
          obtain ⟨gz, offz, rfl, d0, d1, d2, d3, d4, d5⟩ := (HL2.out.fr (Hf1.out.trans0 H11.out.fr)).get hz
          have h4 : (k : Int) < n2 := by omega
          have hzu := HO2.out z (List.mem_of_getElem? hz)
          have ba := i64_and1 z.a
          have bb := i64_and1 z.b
          have ta2 : ¬ T01 (2 + z.a % 2) := by unfold T01; omega
          have tb2 : ¬ T01 (2 + z.b % 2) := by unfold T01; omega
          have wa : wrap64 (2 + z.a % 2) = 2 + z.a % 2 := w64 (by omega) (by omega)
          have wb : Hid (wrap64 (2 + z.b % 2) = 2 + z.b % 2) := Lib.hid (w64 (by clear wa; omega) (by clear wa; omega))
          have wb' := wb.out
          clear hz
          go_wp2_with fail
          refine (t_do (H11.out.frame ((Fr.refl None' w11).alloc _)) (by clear wa wb'; omega) ⟨z.k, 2 + z.a % 2, 2 + z.b % 2, z.u, z.lost, z.again⟩ hzu).mono ?_
          rintro e w12 ⟨rfl, h'⟩
          have H12 := Lib.hid h'.swap
          clear h'
          clear wa wb'
          go_wp2_with fail
          go_roundw
          case rel => exact ⟨k + 1, _, _, hd, hd2, by go_num, H12.out.mono (by omega), RB.out.trans (agree_op _ ⟨z.k, 2 + z.a % 2, 2 + z.b % 2, z.u, z.lost, z.again⟩ ta2 tb2)⟩
          case measure => simp [intOf]; omega
        · have h4 : ¬ (k : Int) < n2 := by omega
          have H12 := Lib.hid (H11.out.swap)
          clear hm
          go_wp2_with fail
          go_roundw
          case rel => exact ⟨k + 1, _, _, hd, hd2, by go_num, H12.out.mono (by omega), RB.out⟩
          case measure => simp [intOf]; omega
      · have HE2 := Lib.hid (HE.out.mono (show 2 + 3 * k ≤ 1000 by omega))
        clear HE
        by_cases hkn : k < n
        · have h1 : (k : Int) < n := by omega
          have h2 : ¬ (k : Int) < 150 := by omega
          clear hlt hkn
          go_wp2_with fail
          go_loopw [20] (fun iv wr => ∃ (j : Nat) (X Y : ES), j ≤ 2 ∧ iv = .int .i64 j ∧ Two u 1000 w1 wr gx X gy Y ∧ Agree X Y) (fun iv _ => 2 - (intOf iv).toNat)
          case atStart => exact ⟨0, X, Y, by decide, rfl, HE2.out, HA.out⟩
          case round =>
            clear HE2 HA Hfr
            clear X Y
            obtain ⟨j, X, Y, hj, rfl, hE, hA⟩ := hrel
            have HE := Lib.hid hE
            have HA := Lib.hid hA
            clear hE hA
            by_cases hj2 : j < 2
            · have h5 : (j : Int) < 2 := by omega
              have tj : T01 (j : Int) := by unfold T01; omega
              have e1 := HA.out.have tj
              obtain ⟨e2, e3⟩ := HA.out.spend tj 1
              have E1 := Lib.hid e1
              have E2 := Lib.hid e2
              have E3 := Lib.hid e3
              clear e1 e2 e3
              go_wp2_with fail
              refine (t_have HE.out j).mono ?_
              rintro e w13 ⟨rfl, h'⟩
              have H13 := Lib.hid h'.swap
              clear h'
              go_wp2_with fail
              refine (t_have H13.out j).mono ?_
              rw [← E1.out]
              rintro e w14 ⟨rfl, h'⟩
              have H14 := Lib.hid h'.swap
              clear h'
              go_wp2_with fail
              refine (t_spend H14.out j 1 (by decide)).mono ?_
              rintro e w15 ⟨rfl, h'⟩
              have H15 := Lib.hid h'.swap
              clear h'
              go_wp2_with fail
              refine (t_spend H15.out j 1 (by decide)).mono ?_
              rw [← E2.out]
              rintro e w16 ⟨rfl, h'⟩
              have H16 := Lib.hid h'.swap
              clear h'
              go_wp2_with fail
              go_roundw
              case rel => exact ⟨j + 1, _, _, hj2, by go_num, H16.out, E3.out⟩
              case measure => simp [intOf]; omega
            · have h5 : ¬ (j : Int) < 2 := by omega
              clear hj2
              go_wp2_with fail
              go_ret
              exact ⟨rfl, Hf1.out.trans0 HE.out.fr⟩
        · have h1 : ¬ (k : Int) < n := by omega
          clear hlt hkn
          go_wp2_with fail
          go_loopw [20] (fun iv wr => ∃ (j : Nat) (X Y : ES), j ≤ 2 ∧ iv = .int .i64 j ∧ Two u 1000 w1 wr gx X gy Y ∧ Agree X Y) (fun iv _ => 2 - (intOf iv).toNat)
          case atStart => exact ⟨0, X, Y, by decide, rfl, HE2.out, HA.out⟩
          case round =>
            clear HE2 HA Hfr
            clear X Y
            obtain ⟨j, X, Y, hj, rfl, hE, hA⟩ := hrel
            have HE := Lib.hid hE
            have HA := Lib.hid hA
            clear hE hA
            by_cases hj2 : j < 2
            · have h5 : (j : Int) < 2 := by omega
              have tj : T01 (j : Int) := by unfold T01; omega
              have e1 := HA.out.have tj
              obtain ⟨e2, e3⟩ := HA.out.spend tj 1
              have E1 := Lib.hid e1
              have E2 := Lib.hid e2
              have E3 := Lib.hid e3
              clear e1 e2 e3
              go_wp2_with fail
              refine (t_have HE.out j).mono ?_
              rintro e w13 ⟨rfl, h'⟩
              have H13 := Lib.hid h'.swap
              clear h'
              go_wp2_with fail
              refine (t_have H13.out j).mono ?_
              rw [← E1.out]
              rintro e w14 ⟨rfl, h'⟩
              have H14 := Lib.hid h'.swap
              clear h'
              go_wp2_with fail
              refine (t_spend H14.out j 1 (by decide)).mono ?_
              rintro e w15 ⟨rfl, h'⟩
              have H15 := Lib.hid h'.swap
              clear h'
              go_wp2_with fail
              refine (t_spend H15.out j 1 (by decide)).mono ?_
              rw [← E2.out]
              rintro e w16 ⟨rfl, h'⟩
              have H16 := Lib.hid h'.swap
              clear h'
              go_wp2_with fail
              go_roundw
              case rel => exact ⟨j + 1, _, _, hj2, by go_num, H16.out, E3.out⟩
              case measure => simp [intOf]; omega
            · have h5 : ¬ (j : Int) < 2 := by omega
              clear hj2
              go_wp2_with fail
              go_ret
              exact ⟨rfl, Hf1.out.trans0 HE.out.fr⟩
  · have H9 := Lib.hid (H3.out.mono (Nat.zero_le 2))
    go_wp2_with fail
    go_loopw [13] (fun iv wr => ∃ (k : Nat) (X Y : ES), k ≤ n ∧ k ≤ 150 ∧ iv = .int .i64 k ∧ Two u (2 + 3 * k) w1 wr gx X gy Y ∧ Agree X Y) (fun iv _ => n - (intOf iv).toNat)
    case atStart => exact ⟨0, _, _, Nat.zero_le _, Nat.zero_le _, rfl, H9.out, Agree.refl _⟩
    case round =>
      obtain ⟨k, X, Y, hk, hk2, rfl, hE, hA⟩ := hrel
      have HE := Lib.hid hE
      have HA := Lib.hid hA
      have Hfr := Lib.hid (Hf1.out.trans0 hE.fr)
      clear hE hA H9
      by_cases hlt : k < n ∧ k < 150
      · obtain ⟨x, hx⟩ : ∃ x, l[k]? = some x := ⟨l[k]'(by rw [← Hn.out]; exact hlt.1), List.getElem?_eq_getElem _⟩
        obtain ⟨ga, off, rfl, c0, c1, c2, c3, c4, c5⟩ := (HL.out.fr Hfr.out).get hx
        have h1 : (k : Int) < n := by omega
        have h2 : (k : Int) < 150 := by omega
        have h3 : ¬ (k : Int) < 0 := by omega
        have hxu := HO.out x (List.mem_of_getElem? hx)
        have hd := hlt.1
        have hd2 := hlt.2
        have ba := i64_and1 x.a
        have bb := i64_and1 x.b
        have ta : T01 (x.a % 2) := by unfold T01; omega
        have tb : T01 (x.b % 2) := by unfold T01; omega
        obtain ⟨ra, rA⟩ := HA.out.op ⟨x.k, x.a % 2, x.b % 2, x.u, x.lost, x.again⟩ ta tb
        have RA := Lib.hid ra
        have RB := Lib.hid rA
        clear hlt hx ra rA
        go_wp2_with fail
        refine (t_do2 HE.out ((Fr.refl None' wr).alloc _) (by omega) ⟨x.k, x.a % 2, x.b % 2, x.u, x.lost, x.again⟩ hxu).mono ?_
        rintro e w10 ⟨rfl, h', hkeep⟩
        have hbox := (hkeep wr.heap.size (Nat.le_refl _) (by simp)).trans (heap_alloc_new wr _)
        obtain ⟨p0, p1, p2, p3, p4, p5⟩ := six_cells hbox
        have H10 := Lib.hid h'.swap
        clear h' hkeep hbox c0 c1 c2 c3 c4 c5 ba bb
        go_wp2_with fail
        refine (t_do H10.out (by omega) ⟨x.k, x.a % 2, x.b % 2, x.u, x.lost, x.again⟩ hxu).mono ?_
        rw [← RA.out]
        rintro e w11 ⟨rfl, h'⟩
        have H11 := Lib.hid h'
        clear h' H10 p0 p1 p2 p3 p4 p5
        by_cases hm : k < n2
        · obtain ⟨z, hz⟩ : ∃ z, l2[k]? = some z := ⟨l2[k]'(by rw [← Hn2.out]; exact hm), List.getElem?_eq_getElem _⟩
          obtain ⟨gz, offz, rfl, d0, d1, d2, d3, d4, d5⟩ := (HL2.out.fr (Hf1.out.trans0 H11.out.fr)).get hz
          have h4 : (k : Int) < n2 := by omega
          have hzu := HO2.out z (List.mem_of_getElem? hz)
          have ba := i64_and1 z.a
          have bb := i64_and1 z.b
          have ta2 : ¬ T01 (2 + z.a % 2) := by unfold T01; omega
          have tb2 : ¬ T01 (2 + z.b % 2) := by unfold T01; omega
          have wa : wrap64 (2 + z.a % 2) = 2 + z.a % 2 := w64 (by omega) (by omega)
          have wb : Hid (wrap64 (2 + z.b % 2) = 2 + z.b % 2) := Lib.hid (w64 (by clear wa; omega) (by clear wa; omega))
          have wb' := wb.out
          clear hz
          go_wp2_with fail
          refine (t_do (H11.out.frame ((Fr.refl None' w11).alloc _)) (by clear wa wb'; omega) ⟨z.k, 2 + z.a % 2, 2 + z.b % 2, z.u, z.lost, z.again⟩ hzu).mono ?_
          rintro e w12 ⟨rfl, h'⟩
          have H12 := Lib.hid h'.swap
          clear h'
          clear wa wb'
          go_wp2_with fail
          go_roundw
          case rel => exact ⟨k + 1, _, _, hd, hd2, by go_num, H12.out.mono (by omega), RB.out.trans (agree_op _ ⟨z.k, 2 + z.a % 2, 2 + z.b % 2, z.u, z.lost, z.again⟩ ta2 tb2)⟩
          case measure => simp [intOf]; omega
        · have h4 : ¬ (k : Int) < n2 := by omega
          have H12 := Lib.hid (H11.out.swap)
          clear hm
          go_wp2_with fail
          go_roundw
          case rel => exact ⟨k + 1, _, _, hd, hd2, by go_num, H12.out.mono (by omega), RB.out⟩
          case measure => simp [intOf]; omega
      · have HE2 := Lib.hid (HE.out.mono (show 2 + 3 * k ≤ 1000 by omega))
        clear HE
        by_cases hkn : k < n
        · have h1 : (k : Int) < n := by omega
          have h2 : ¬ (k : Int) < 150 := by omega
          clear hlt hkn
          go_wp2_with fail
          go_loopw [20] (fun iv wr => ∃ (j : Nat) (X Y : ES), j ≤ 2 ∧ iv = .int .i64 j ∧ Two u 1000 w1 wr gx X gy Y ∧ Agree X Y) (fun iv _ => 2 - (intOf iv).toNat)
          case atStart => exact ⟨0, X, Y, by decide, rfl, HE2.out, HA.out⟩
          case round =>
            clear HE2 HA Hfr
            clear X Y
            obtain ⟨j, X, Y, hj, rfl, hE, hA⟩ := hrel
            have HE := Lib.hid hE
            have HA := Lib.hid hA
            clear hE hA
            by_cases hj2 : j < 2
            · have h5 : (j : Int) < 2 := by omega
              have tj : T01 (j : Int) := by unfold T01; omega
              have e1 := HA.out.have tj
              obtain ⟨e2, e3⟩ := HA.out.spend tj 1
              have E1 := Lib.hid e1
              have E2 := Lib.hid e2
              have E3 := Lib.hid e3
              clear e1 e2 e3
              go_wp2_with fail
              refine (t_have HE.out j).mono ?_
              rintro e w13 ⟨rfl, h'⟩
              have H13 := Lib.hid h'.swap
              clear h'
              go_wp2_with fail
              refine (t_have H13.out j).mono ?_
              rw [← E1.out]
              rintro e w14 ⟨rfl, h'⟩
              have H14 := Lib.hid h'.swap
              clear h'
              go_wp2_with fail
              refine (t_spend H14.out j 1 (by decide)).mono ?_
              rintro e w15 ⟨rfl, h'⟩
              have H15 := Lib.hid h'.swap
              clear h'
              go_wp2_with fail
              refine (t_spend H15.out j 1 (by decide)).mono ?_
              rw [← E2.out]
              rintro e w16 ⟨rfl, h'⟩
              have H16 := Lib.hid h'.swap
              clear h'
              go_wp2_with fail
              go_roundw
              case rel => exact ⟨j + 1, _, _, hj2, by go_num, H16.out, E3.out⟩
              case measure => simp [intOf]; omega
            · have h5 : ¬ (j : Int) < 2 := by omega
              clear hj2
              go_wp2_with fail
              go_ret
              exact ⟨rfl, Hf1.out.trans0 HE.out.fr⟩
        · have h1 : ¬ (k : Int) < n := by omega
          clear hlt hkn
          go_wp2_with fail
          go_loopw [20] (fun iv wr => ∃ (j : Nat) (X Y : ES), j ≤ 2 ∧ iv = .int .i64 j ∧ Two u 1000 w1 wr gx X gy Y ∧ Agree X Y) (fun iv _ => 2 - (intOf iv).toNat)
          case atStart => exact ⟨0, X, Y, by decide, rfl, HE2.out, HA.out⟩
          case round =>
            clear HE2 HA Hfr
            clear X Y
            obtain ⟨j, X, Y, hj, rfl, hE, hA⟩ := hrel
            have HE := Lib.hid hE
            have HA := Lib.hid hA
            clear hE hA
            by_cases hj2 : j < 2
            · have h5 : (j : Int) < 2 := by omega
              have tj : T01 (j : Int) := by unfold T01; omega
              have e1 := HA.out.have tj
              obtain ⟨e2, e3⟩ := HA.out.spend tj 1
              have E1 := Lib.hid e1
              have E2 := Lib.hid e2
              have E3 := Lib.hid e3
              clear e1 e2 e3
              go_wp2_with fail
              refine (t_have HE.out j).mono ?_
              rintro e w13 ⟨rfl, h'⟩
              have H13 := Lib.hid h'.swap
              clear h'
              go_wp2_with fail
              refine (t_have H13.out j).mono ?_
              rw [← E1.out]
              rintro e w14 ⟨rfl, h'⟩
              have H14 := Lib.hid h'.swap
              clear h'
              go_wp2_with fail
              refine (t_spend H14.out j 1 (by decide)).mono ?_
              rintro e w15 ⟨rfl, h'⟩
              have H15 := Lib.hid h'.swap
              clear h'
              go_wp2_with fail
              refine (t_spend H15.out j 1 (by decide)).mono ?_
              rw [← E2.out]
              rintro e w16 ⟨rfl, h'⟩
              have H16 := Lib.hid h'.swap
              clear h'
              go_wp2_with fail
              go_roundw
              case rel => exact ⟨j + 1, _, _, hj2, by go_num, H16.out, E3.out⟩
              case measure => simp [intOf]; omega
            · have h5 : ¬ (j : Int) < 2 := by omega
              clear hj2
              go_wp2_with fail
              go_ret
              exact ⟨rfl, Hf1.out.trans0 HE.out.fr⟩
set_option maxRecDepth 1000000 in
open Go.ChangeShapes Go.WideShapes in
theorem others_walk {H : Type} {enc : TypeId × Value → H} (W : World) {b0 : Nat} {v1 : Value} {d1 : DataW H} {p1 : List MemPlace} {v2 : Value} {d2 : DataW H} {p2 : List MemPlace} (a0 : Int) (w0 : (Lit.int .u16 a0).wf = true)
    (o1 : Value.okWide Try.prog W .any b0 54 v1) (k1 : DataW.Trod enc Try.prog W 0 (fun _ => true) true 54 v1 d1 p1) (z1 : (d1.weights Try.prog 54).all (· ≤ reachBytes) = true)
    (o2 : Value.okWide Try.prog W .any b0 54 v2) (k2 : DataW.Trod enc Try.prog W 0 (fun _ => true) true 54 v2 d2 p2) (z2 : (d2.weights Try.prog 54).all (· ≤ reachBytes) = true) :
    Calls Try.prog 10 #[.int .u16 a0, v1, v2] W fun e w' => e = .returned (.bool true) ∧ Below W.heap.size W w' := by
  obtain ⟨l, hl, hm⟩ := open_acts W o1 k1 z1
  obtain ⟨l2, hl2, hm2⟩ := open_acts W o2 k2 z2
  obtain ⟨h1, h2⟩ := u16_range w0
  exact (others_any a0 h1 h2 hl hm hl2 hm2).mono fun e w' h => fr_end h
end Go.Proofs.Ytdjaofkbgkifkaa

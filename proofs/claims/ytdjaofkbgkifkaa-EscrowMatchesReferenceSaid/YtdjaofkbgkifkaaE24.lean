/- Package escrow: the laws' arguments; EscrowConserves. -/
import Derived.Test.YtdjaofkbgkifkaaE23
set_option linter.unusedVariables false
set_option linter.unusedSimpArgs false
namespace Go.Proofs.Ytdjaofkbgkifkaa
open Go.RowKit

set_option maxRecDepth 1000000 in
open Go.ChangeShapes Go.WideShapes in
theorem elem_act {H : Type} {enc : TypeId × Value → H} {W : World} (fuel : Nat) (cs' : List Value) (x : DataW H × List MemPlace) (h : DataW.trod enc Try.prog W 0 (fun _ => true) true fuel 60 cs' = some x) :
    ∃ a : EA, cs' = a.cells ∧ a.u ≤ 9223372036854775807 := by
  obtain ⟨xs, n, _, rfl, hl, hlen, hf⟩ := DataW.trod_struct Try.underlying60 h
  have h6 : Try.prog.cellsOf 60 = 6 := by kernel_rfl
  rw [h6] at hl
  obtain ⟨c0, c1, c2, c3, c4, c5, rfl⟩ : ∃ c0 c1 c2 c3 c4 c5, cs' = [c0, c1, c2, c3, c4, c5] := by
    match cs', hl with
    | [c0, c1, c2, c3, c4, c5], _ => exact ⟨c0, c1, c2, c3, c4, c5, rfl⟩
  have e3 : Try.prog.cellsOf 3 = 1 := by kernel_rfl
  have e4 : Try.prog.cellsOf 4 = 1 := by kernel_rfl
  match xs, hlen with
  | [y0, y1, y2, y3, y4, y5], _ =>
    have g0 := hf 0 _ rfl
    have g1 := hf 1 _ rfl
    have g2 := hf 2 _ rfl
    have g3 := hf 3 _ rfl
    have g4 := hf 4 _ rfl
    have g5 := hf 5 _ rfl
    simp at g0 g1 g2 g3 g4 g5
    rw [e3] at g0 g1 g2 g3
    rw [e4] at g4 g5
    simp at g0 g1 g2 g3 g4
    have t5 : List.take 1 [c5] = [c5] := rfl
    rw [t5] at g5
    obtain ⟨k, hk, _, hkw⟩ := DataW.trod_int Try.underlying3 g0
    obtain ⟨a, ha, _, haw⟩ := DataW.trod_int Try.underlying3 g1
    obtain ⟨b, hb, _, hbw⟩ := DataW.trod_int Try.underlying3 g2
    obtain ⟨t, ht, _, hts⟩ := DataW.trod_int Try.underlying3 g3
    obtain ⟨l, hlo, _⟩ := DataW.trod_bool Try.underlying4 g4
    obtain ⟨g, hg, _⟩ := DataW.trod_bool Try.underlying4 g5
    simp only [List.cons.injEq, and_true] at hk ha hb ht hlo hg
    subst hk ha hb ht hlo hg
    refine ⟨⟨k, a, b, t, l, g⟩, rfl, ?_⟩
    simp [Lit.wf, IntKind.min, IntKind.max, IntKind.signed, IntKind.bits] at hts
    simp only []
    omega
set_option maxRecDepth 1000000 in
open Go.ChangeShapes Go.WideShapes in
theorem open_acts {H : Type} {enc : TypeId × Value → H} (W : World) {b0 : Nat} {v : Value} {d : DataW H} {p : List MemPlace}
    (o : Value.okWide Try.prog W .any b0 54 v) (k : DataW.Trod enc Try.prog W 0 (fun _ => true) true 54 v d p) (z : (d.weights Try.prog 54).all (· ≤ reachBytes) = true) :
    ∃ l, RdA W v l ∧ OKA l := by
  obtain ⟨l, hl, hm⟩ := open_list 6 40 EA.cells (fun a => a.u ≤ 9223372036854775807) Try.underlying54 (by kernel_rfl) (by decide) (by kernel_rfl) (by decide) elem_act o k z
  exact ⟨l, hl, hm⟩
theorem u8_range {a : Int} (h : (Lit.int .u8 a).wf = true) : ∃ r : Nat, a = r ∧ r ≤ 255 := by
  have hb : 0 ≤ a ∧ a ≤ 255 := by simp [Lit.wf, IntKind.min, IntKind.max, IntKind.signed, IntKind.bits] at h; omega
  obtain ⟨r, rfl⟩ := Int.eq_ofNat_of_zero_le hb.1
  exact ⟨r, rfl, by omega⟩
theorem u16_range {a : Int} (h : (Lit.int .u16 a).wf = true) : 0 ≤ a ∧ a ≤ 65535 := by
  simp [Lit.wf, IntKind.min, IntKind.max, IntKind.signed, IntKind.bits] at h; omega
theorem eHave_ac {S : ES} {i : Int} (h : isB S.acc.length i = true) : eHave S i = (S.ac i).u := by
  unfold eHave
  rw [if_pos h, ES.ac_get h]
theorem eHave_no {S : ES} {i : Int} (h : isB S.acc.length i = false) : eHave S i = 0 := by
  unfold eHave
  rw [if_neg (by rw [h]; simp)]
theorem units_le {U : Int} {t : Nat} {S : ES} (h : Inv U t S) (k : Nat) : 0 ≤ ((S.acc.map (·.u)).take k).sum ∧ eFly S + eSpent S + ((S.acc.map (·.u)).take k).sum ≤ U ∧ 0 ≤ eFly S ∧ 0 ≤ eSpent S := by
  have h1 : ∀ x ∈ S.acc.map (·.u), 0 ≤ x := fun x hx => by obtain ⟨y, hy, rfl⟩ := List.mem_map.1 hx; exact (mem_u0 h.sh hy).1
  have h2 : ∀ x ∈ S.acc.map (·.s), 0 ≤ x := fun x hx => by obtain ⟨y, hy, rfl⟩ := List.mem_map.1 hx; exact (mem_u0 h.sh hy).2
  have h3 := sum_take_le _ h1 k
  have h4 : 0 ≤ eSpent S := sum_nonneg _ h2
  have h5 := eFly_nonneg h.sh
  have h6 := h.sum
  unfold eUnits at h6
  omega
set_option maxHeartbeats 2000000 in
theorem conserves_any (r : Nat) (hr : r ≤ 255) (u : Int) (hu : 0 ≤ u) (hu2 : u ≤ 65535) {v : Value} {l : List EA} {w : World} (hl : RdA w v l) (hok : OKA l) :
    Calls Try.prog 5 #[.int .u8 r, .int .u16 u, v] w fun e w' => e = .returned (.bool true) ∧ Fr None' w w' := by
  have HL := Lib.hid hl
  have HO := Lib.hid hok
  clear hl hok
  go_enter Try.func5, Try.ntmps5
  go_wp2_with fail
  refine (head_any w).mono ?_
  rintro e w1 ⟨rfl, hf1⟩
  have Hf1 := Lib.hid hf1
  clear hf1
  go_wp2_with fail
  refine (open_any r hr u hu hu2 (HL.out.fr Hf1.out) HO.out).mono ?_
  rintro e w2 ⟨g, rfl, hE⟩
  have hlen := eOpen_len r u l
  generalize eOpen r u l = S at *
  have hm4 : r % 4 < 4 := Nat.mod_lt _ (by decide)
  generalize hN : 1 + r % 4 = n at *
  have hn4 : n ≤ 4 := by omega
  clear hN hm4
  have H2 := Lib.hid hE
  have Hlen := Lib.hid hlen
  have hb0 := units_le hE.inv 0
  simp only [List.take_zero, List.sum_nil] at hb0
  obtain ⟨fl, hfl⟩ : ∃ fl, fl = eFly S := ⟨_, rfl⟩
  obtain ⟨sp, hsp⟩ : ∃ sp, sp = eSpent S := ⟨_, rfl⟩
  rw [← hfl, ← hsp] at hb0
  have b1 : ¬ fl < 0 := by omega
  have b2 : ¬ sp < 0 := by omega
  have b3 : wrap64 (fl + sp) = fl + sp := w64 (by omega) (by omega)
  have Hfl := Lib.hid hfl
  have Hsp := Lib.hid hsp
  clear hE hlen hb0 hfl hsp
  go_wp2_with fail
  refine (s_fly H2.out (by decide)).mono ?_
  rw [← Hfl.out]
  rintro e w3 ⟨rfl, h'⟩
  have H3 := Lib.hid h'
  clear h' H2
  go_wp2_with fail
  refine (s_spent H3.out).mono ?_
  rw [← Hsp.out]
  rintro e w4 ⟨rfl, h'⟩
  have H4 := Lib.hid h'
  clear h' H3
  go_wp2_with fail
  refine (s_fly H4.out (by decide)).mono ?_
  rw [← Hfl.out]
  rintro e w5 ⟨rfl, h'⟩
  have H5 := Lib.hid h'
  clear h' H4
  go_wp2_with fail
  refine (s_spent H5.out).mono ?_
  rw [← Hsp.out]
  rintro e w6 ⟨rfl, h'⟩
  have H6 := Lib.hid h'
  clear h' H5
  go_wp2_with fail
  go_loopw [10, 11] (fun s iv wr => ∃ k : Nat, k ≤ n ∧ iv = .int .i64 k ∧ s = .int .i64 (fl + sp + ((S.acc.map (·.u)).take k).sum) ∧ ESt u 150 w1 wr g S) (fun _ iv _ => n - (intOf iv).toNat)
  case atStart => exact ⟨0, Nat.zero_le _, rfl, by simp, H6.out⟩
  case round =>
    obtain ⟨k, hk, rfl, rfl, hE⟩ := hrel
    have HE := Lib.hid hE
    by_cases hlt : k < n
    · have hkI : (k : Int) < n := by omega
      have hi : isB S.acc.length (k : Int) = true := by rw [Hlen.out]; simp [isB]; omega
      have hv := eHave_ac hi
      have hx := ES.ac_get hi
      rw [Int.toNat_natCast] at hx
      have hst := sum_take_succ (S.acc.map (·.u)) k (S.ac (k : Int)).u (by rw [List.getElem?_map, hx]; rfl)
      have hb := units_le hE.inv (k + 1)
      have hb1 := units_le hE.inv k
      rw [hst, ← Hfl.out, ← Hsp.out] at hb
      rw [← Hfl.out, ← Hsp.out] at hb1
      obtain ⟨x, hxe⟩ : ∃ x, x = eHave S (k : Int) := ⟨_, rfl⟩
      rw [← hv, ← hxe] at hst hb
      have hx0 : ¬ x < 0 := by
        have := hE.inv.sh.ac hi
        rw [← hv, ← hxe] at this
        omega
      obtain ⟨s, hs⟩ : ∃ s, s = ((S.acc.map (·.u)).take k).sum := ⟨_, rfl⟩
      rw [← hs] at hst hb hb1 ⊢
      have hw : wrap64 (fl + sp + s + x) = fl + sp + s + x := w64 (by clear b3; omega) (by clear b3; omega)
      have Hxe := Lib.hid hxe
      have Hst := Lib.hid hst
      clear hE hi hv hx hst hb hb1 hxe hs
      go_wp2_with fail
      refine (s_have HE.out k).mono ?_
      rw [← Hxe.out]
      rintro e w7 ⟨rfl, h'⟩
      have H7 := Lib.hid h'
      clear h'
      go_wp2_with fail
      refine (s_have H7.out k).mono ?_
      rw [← Hxe.out]
      rintro e w8 ⟨rfl, h'⟩
      have H8 := Lib.hid h'
      clear h'
      go_wp2_with fail
      go_roundw
      case rel => exact ⟨k + 1, hlt, by (clear hw b3; go_num), by rw [hw, Hst.out, Int.add_assoc], H8.out⟩
      case measure => (clear hw b3; simp [intOf]; omega)
    · have hkn : k = n := by omega
      subst hkn
      have hs : fl + sp + ((S.acc.map (·.u)).take k).sum = u := by
        rw [List.take_of_length_le (by rw [List.length_map, Hlen.out]; exact Nat.le_refl _)]
        have := hE.inv.sum
        unfold eUnits at this
        rw [← Hfl.out, ← Hsp.out] at this
        clear b3; omega
      have e1 : eHave S (k : Int) = 0 := eHave_no (by rw [Hlen.out]; simp [isB])
      have e2 : eHave S (-1) = 0 := eHave_no (by simp [isB])
      rw [hs]
      have He1 := Lib.hid e1
      have He2 := Lib.hid e2
      clear hE hs hlt e1 e2
      go_wp2_with fail
      refine (s_have HE.out k).mono ?_
      rw [He1.out]
      rintro e w7 ⟨rfl, h'⟩
      have H7 := Lib.hid h'
      clear h'
      go_wp2_with fail
      refine (s_have H7.out (-1)).mono ?_
      rw [He2.out]
      rintro e w8 ⟨rfl, h'⟩
      have H8 := Lib.hid h'
      clear h'
      go_wp2_with fail
      go_ret
      exact ⟨rfl, Hf1.out.trans0 H8.out.fr⟩
theorem fr_end {w w' : World} {e : Ending} (h : e = .returned (.bool true) ∧ Fr None' w w') : e = .returned (.bool true) ∧ Below w.heap.size w w' := ⟨h.1, h.2.below (fun _ h => h.elim) (Nat.le_refl _)⟩
set_option maxRecDepth 1000000 in
open Go.ChangeShapes Go.WideShapes in
theorem conserves_walk {H : Type} {enc : TypeId × Value → H} (W : World) {b0 : Nat} {v2 : Value} {d2 : DataW H} {p2 : List MemPlace} (a0 : Int) (w0 : (Lit.int .u8 a0).wf = true) (a1 : Int) (w1 : (Lit.int .u16 a1).wf = true)
    (o2 : Value.okWide Try.prog W .any b0 54 v2) (k2 : DataW.Trod enc Try.prog W 0 (fun _ => true) true 54 v2 d2 p2) (z2 : (d2.weights Try.prog 54).all (· ≤ reachBytes) = true) :
    Calls Try.prog 5 #[.int .u8 a0, .int .u16 a1, v2] W fun e w' => e = .returned (.bool true) ∧ Below W.heap.size W w' := by
  obtain ⟨l, hl, hm⟩ := open_acts W o2 k2 z2
  obtain ⟨r, rfl, hr⟩ := u8_range w0
  obtain ⟨h1, h2⟩ := u16_range w1
  exact (conserves_any r hr a1 h1 h2 hl hm).mono fun e w' h => fr_end h
end Go.Proofs.Ytdjaofkbgkifkaa

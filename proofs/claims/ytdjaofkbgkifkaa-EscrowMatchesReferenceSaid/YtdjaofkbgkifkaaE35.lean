/- The reference of chapter 36: Spent, Flying. -/
import Derived.Test.YtdjaofkbgkifkaaE34
set_option linter.unusedVariables false
set_option linter.unusedSimpArgs false
namespace Go.Proofs.Ytdjaofkbgkifkaa
open Go.RowKit

theorem rspent_ok {U : Int} {t : Nat} {w : World} {F : Nat → Prop} {g : Nat} {S : ES} (h : RefIs w F g S) (hU : U ≤ 1000000000) (hI : Inv U t S) :
    Calls Try.prog 38 #[.pointer (some ⟨g, 0, none⟩)] w fun e w' => e = .returned (.int .i64 (eSpent S)) ∧ w' = w := by
  obtain ⟨ρ, vU, vS, vR, vP, vr, vT, vM, mz, h, _⟩ := h
  obtain ⟨_, c1, _⟩ := h.cells
  obtain ⟨A, cap, rfl⟩ := arr_form scell_len h.us
  have hn8 := hI.sh.n8
  have Hh := Lib.hid h.us
  have HI := Lib.hid hI
  have HU := Lib.hid hU
  obtain ⟨n, hn⟩ : ∃ n, n = S.acc.length := ⟨_, rfl⟩
  rw [← hn] at c1
  have Hn := Lib.hid hn
  have hn8' : n ≤ 8 := by omega
  clear h hI hU hn8 hn
  go_enter Try.func38, Try.ntmps38
  go_wp2_with fail
  go_loopw [3, 4] (fun s iv wr => ∃ i : Nat, i ≤ n ∧ iv = .int .i64 i ∧ s = .int .i64 (((S.acc.map (·.s)).take i).sum) ∧ wr = w) (fun _ iv _ => n - (intOf iv).toNat)
  case atStart => exact ⟨0, Nat.zero_le _, rfl, rfl, rfl⟩
  case round =>
    obtain ⟨i, hi, rfl, rfl, rfl⟩ := hrel
    by_cases hlt : i < n
    · have hltI : (i : Int) < n := by omega
      have hi0 : ¬ (i : Int) < 0 := by omega
      have hx : S.acc[i]? = some (S.acc[i]'(by rw [← Hn.out]; exact hlt)) := List.getElem?_eq_getElem _
      generalize S.acc[i]'(by rw [← Hn.out]; exact hlt) = x at hx
      obtain ⟨ga, off, cap', he, _, u0, _⟩ := arr_get scell_len Hh.out hx rfl
      cases he
      have hs := sum_take_succ (S.acc.map (·.s)) i x.s (by rw [List.getElem?_map, hx]; rfl)
      have hb := spent_le HI.out (i + 1)
      rw [hs] at hb
      obtain ⟨s, hse⟩ : ∃ s, s = ((S.acc.map (·.s)).take i).sum := ⟨_, rfl⟩
      rw [← hse] at hb hs ⊢
      have hU' := HU.out
      have hw : wrap64 (s + x.s) = s + x.s := w64 (by omega) (by omega)
      have Hs := Lib.hid hs
      clear hx hb hs hU' hse
      go_wp2_with fail
      go_roundw
      case rel => exact ⟨i + 1, hlt, by (clear hw; go_num), by rw [Hs.out, hw], trivial⟩
      case measure => (clear hw; simp [intOf]; omega)
    · obtain rfl : i = n := by omega
      clear hlt
      go_wp2_with fail
      go_ret
      refine ⟨?_, rfl⟩
      unfold eSpent
      rw [List.take_of_length_le (by rw [List.length_map, ← Hn.out]; exact Nat.le_refl _)]
      rfl
/-- Partial sums of a table. -/
def psum (f : Nat → Int) (n : Nat) : Int := ((List.range n).map f).sum
theorem psum_zero (f : Nat → Int) : psum f 0 = 0 := rfl
theorem psum_succ (f : Nat → Int) (n : Nat) : psum f (n + 1) = psum f n + f n := by simp [psum, List.range_succ]
theorem psum_mono (f : Nat → Int) (h : ∀ k, 0 ≤ f k) : ∀ {m n : Nat}, m ≤ n → 0 ≤ psum f m ∧ psum f m ≤ psum f n := by
  intro m n hmn
  induction n with
  | zero =>
    obtain rfl : m = 0 := by omega
    simp [psum_zero]
  | succ n ih =>
    by_cases e : m = n + 1
    · subst e
      refine ⟨sum_nonneg _ (fun x hx => ?_), Int.le_refl _⟩
      obtain ⟨y, _, rfl⟩ := List.mem_map.1 hx
      exact h y
    · have := ih (by omega)
      have := h n
      rw [psum_succ]
      omega
theorem rfly_at {t : Nat} {S : ES} (h : Shape t S) (dg : ∀ a : Nat, S.ln a a = EL.nil) {a b : Nat} (ha : a < S.acc.length) (hb : b < S.acc.length) : LineOK t (S.ln a b) (S.ln b a) := by
  by_cases e : a = b
  · subst e
    rw [dg]
    exact ⟨Nat.le_refl _, Nat.zero_le _, Nat.zero_le _, Nat.zero_le _, fun x hx => by simp [EL.nil] at hx, Nat.zero_le _, fun x hx => by simp [EL.nil] at hx⟩
  · exact h.ok (nat_pair ha hb e)
/-- The reference's sum over all pairs. -/
theorem eFly_psum {S : ES} (dg : ∀ a : Nat, S.ln a a = EL.nil) : eFly S = psum (fun a => psum (fun b => (S.ln a b).fly) S.acc.length) S.acc.length := by
  unfold eFly gsum psum
  congr 1
  refine List.map_congr_left (fun a _ => ?_)
  congr 1
  refine List.map_congr_left (fun b _ => ?_)
  show (if a = b then 0 else (S.ln a b).fly) = (S.ln a b).fly
  by_cases e : a = b
  · subst e
    rw [dg]; simp [EL.nil, EL.fly]
  · rw [if_neg e]
theorem pair_get {w : World} {v : Value} {n : Nat} {f : Nat → List Value} (hf : ∀ b, (f b).length = 4) (h : Row w 4 v ((List.range n).flatMap f)) {b : Nat} (hb : b < n) {u0 u1 u2 u3 : Value} (hu : f b = [u0, u1, u2, u3]) :
    ∃ g off cap, v = .slice (some ⟨g, off, none⟩) n cap ∧ rowBlk v = some g ∧ w.cell? ⟨g, off + b * 4, none⟩ = some u0 ∧ w.cell? ⟨g, off + b * 4 + 1, none⟩ = some u1 ∧ w.cell? ⟨g, off + b * 4 + 2, none⟩ = some u2 ∧ w.cell? ⟨g, off + b * 4 + 3, none⟩ = some u3 ∧ (∀ o, w.frozen? ⟨g, o, none⟩ = false) := by
  obtain ⟨A, n', cap, rfl, hn⟩ := h.form
  rw [flat_length f 4 hf, List.length_range] at hn
  obtain rfl : n' = n := by omega
  obtain ⟨g, off, rfl, hbk, hc⟩ := h.at_ (i := b) hb
  have hx : (List.range n')[b]? = some b := by rw [List.getElem?_range hb]
  have key : ∀ (j : Nat) (u : Value), j < 4 → (f b)[j]? = some u → w.cell? ⟨g, off + b * 4 + j, none⟩ = some u := fun j u hj hju => by
    have h1 := hc j hj
    have h2 := flat_get f 4 hf (List.range n') b b j u hx hju
    rw [h2] at h1
    exact h1
  refine ⟨g, off, cap, rfl, hbk, key 0 u0 (by decide) (by rw [hu]; rfl), key 1 u1 (by decide) (by rw [hu]; rfl), key 2 u2 (by decide) (by rw [hu]; rfl), key 3 u3 (by decide) (by rw [hu]; rfl), fun o => h.free hbk o⟩
set_option maxHeartbeats 4000000 in
set_option maxRecDepth 1000000 in
theorem rflying_ok {U : Int} {t : Nat} {w : World} {F : Nat → Prop} {g : Nat} {S : ES} (h : RefIs w F g S) (hU : U ≤ 1000000000) (hI : Inv U t S) (ht : t ≤ 1000000) :
    Calls Try.prog 39 #[.pointer (some ⟨g, 0, none⟩)] w fun e w' => e = .returned (.int .i64 (eFly S)) ∧ Fr None' w w' := by
  obtain ⟨ρ, vU, vS, vR, vP, vr, vT, vM, mz, h, _⟩ := h
  obtain ⟨_, _, _, c3, _⟩ := h.cells
  have hglt : g < w.heap.size := (Array.getElem?_eq_some_iff.1 h.obj).1
  have hn8 := hI.sh.n8
  have Hh := Lib.hid h
  have HI := Lib.hid hI
  have Ht := Lib.hid ht
  rw [eFly_psum h.dg]
  have hUf : psum (fun a => psum (fun b => (S.ln a b).fly) S.acc.length) S.acc.length ≤ U := by
    rw [← eFly_psum h.dg]
    have h1 := hI.sum
    have h2 := le_units hI.sh (i := 0) (by have := hI.sh.n1; simp [isB]; omega)
    omega
  obtain ⟨n, hn⟩ : ∃ n, n = S.acc.length := ⟨_, rfl⟩
  rw [← hn] at hUf ⊢
  have hfn : ∀ a b, a < n → b < n → 0 ≤ (S.ln a b).fly := fun a b ha hb => sum_nonneg _ (fun x hx => by
    have := (rfly_at hI.sh h.dg (by omega) (by omega)).pos x (List.mem_of_mem_drop hx)
    omega)
  obtain ⟨f, hf⟩ : ∃ f : Nat → Nat → Int, f = fun a b => if a < n ∧ b < n then (S.ln a b).fly else 0 := ⟨_, rfl⟩
  have hf0 : ∀ a b, 0 ≤ f a b := fun a b => by
    rw [hf]; dsimp only
    split
    · next hc => exact hfn a b hc.1 hc.2
    · exact Int.le_refl _
  have hfe : ∀ a b, a < n → b < n → f a b = (S.ln a b).fly := fun a b ha hb => by rw [hf]; dsimp only; rw [if_pos ⟨ha, hb⟩]
  have hpe : psum (fun a => psum (fun b => (S.ln a b).fly) n) n = psum (fun a => psum (f a) n) n := by
    unfold psum
    congr 1
    refine List.map_congr_left (fun a ha => ?_)
    congr 1
    refine List.map_congr_left (fun b hb => ?_)
    exact (hfe a b (List.mem_range.1 ha) (List.mem_range.1 hb)).symm
  rw [hpe] at hUf ⊢
  have hout := h.out
  rw [← hn] at hout
  obtain ⟨AP, capP, hvP⟩ := arr_form (f := fun a => [vr a]) (fun _ => rfl) hout
  rw [List.length_range] at hvP
  subst hvP
  have hbd : ∀ a b x, a < n → b < n → 0 ≤ x → x ≤ f a b → 0 ≤ psum (fun a => psum (f a) n) a + psum (f a) b + x ∧ psum (fun a => psum (f a) n) a + psum (f a) b + x ≤ 1000000000 := fun a b x ha hb h0 h1 => by
    have p0 : ∀ k, 0 ≤ psum (f k) n := fun k => (psum_mono (f k) (hf0 k) (Nat.le_refl n)).1
    have p1 := psum_mono (fun a => psum (f a) n) p0 (m := a + 1) (n := n) ha
    have p2 := psum_mono (fun a => psum (f a) n) p0 (m := a) (n := n) (by omega)
    have p3 := psum_mono (f a) (hf0 a) (m := b + 1) (n := n) hb
    have p4 := psum_mono (f a) (hf0 a) (m := b) (n := n) (by omega)
    rw [psum_succ] at p1 p3
    omega
  have Hbd := Lib.hid hbd
  have Hfe := Lib.hid hfe
  have Hn := Lib.hid hn
  have Hout := Lib.hid hout
  have hn8' : n ≤ 8 := by omega
  have hs0 : psum (fun a => psum (f a) n) 0 = 0 := rfl
  clear h hI hU hn8 hn ht hUf hfn hf hf0 hfe hpe hout hbd
  go_enter Try.func39, Try.ntmps39
  go_wp2_with fail
  go_loopw [3, 4] (fun s iv wr => ∃ i : Nat, i ≤ n ∧ iv = .int .i64 i ∧ s = .int .i64 (psum (fun a => psum (f a) n) i) ∧ Fr None' w wr) (fun _ iv _ => n - (intOf iv).toNat)
  case atStart => exact ⟨0, Nat.zero_le _, rfl, rfl, Fr.refl _ _⟩
  case round =>
    obtain ⟨i, hi, rfl, rfl, hfr⟩ := hrel
    have hE := Hh.out.fr hfr (fun _ _ h => h)
    obtain ⟨_, _, _, d3, _⟩ := hE.cells
    by_cases hlt : i < n
    · have hltI : (i : Int) < n := by omega
      have hi0 : ¬ (i : Int) < 0 := by omega
      obtain ⟨sA, hsA⟩ : ∃ sA, sA = psum (fun a => psum (f a) n) i := ⟨_, rfl⟩
      rw [← hsA]
      have HsA := Lib.hid hsA
      have HE := Lib.hid hE
      have Hfr := Lib.hid hfr
      clear hfr hE hsA
      go_wp2_with fail
      go_loopw [3, 5] (fun s jv wr => ∃ j : Nat, j ≤ n ∧ jv = .int .i64 j ∧ s = .int .i64 (sA + psum (f i) j) ∧ Fr None' w wr) (fun _ jv _ => n - (intOf jv).toNat)
      case atStart => exact ⟨0, Nat.zero_le _, rfl, by rw [psum_zero, Int.add_zero], Hfr.out⟩
      case round =>
        obtain ⟨j, hj, rfl, rfl, hfr⟩ := hrel
        have hE := Hh.out.fr hfr (fun _ _ h => h)
        obtain ⟨_, _, _, e3, _⟩ := hE.cells
        by_cases hlt2 : j < n
        · have hlt2I : (j : Int) < n := by omega
          have hj0 : ¬ (j : Int) < 0 := by omega
          have hx : (List.range n)[i]? = some i := by rw [List.getElem?_range hlt]
          have ho := hE.out
          rw [← Hn.out] at ho
          obtain ⟨gp, op, cp, hvp, _, p0, _⟩ := arr_get (f := fun a => [vr a]) (fun _ => rfl) ho hx rfl
          rw [List.length_range] at hvp
          cases hvp
          have hrow := hE.row i (by rw [← Hn.out]; exact hlt)
          rw [← Hn.out] at hrow
          obtain ⟨gr, orr, cr, hvr, _, q0, q1, q2, q3, _⟩ := pair_get (f := pcells S vT vM i) (fun _ => rfl) hrow hlt2 rfl
          rw [hvr] at p0
          have htr := hE.tr i j (by rw [← Hn.out]; exact hlt) (by rw [← Hn.out]; exact hlt2)
          obtain ⟨A, cap, hv⟩ := arr_form (f := icell) (fun _ => rfl) htr
          rw [hv] at q0 htr
          obtain ⟨AM, nM, capM, hvM, _⟩ := (hE.ms i j (by rw [← Hn.out]; exact hlt) (by rw [← Hn.out]; exact hlt2)).form
          rw [hvM] at q3
          have hok := rfly_at HI.out.sh Hh.out.dg (a := i) (b := j) (by rw [← Hn.out]; exact hlt) (by rw [← Hn.out]; exact hlt2)
          obtain ⟨l, hl⟩ : ∃ l, l = S.ln i j := ⟨_, rfl⟩
          have hfl : f i j = (l.all.drop l.rcv).sum := by rw [Hfe.out i j hlt hlt2, hl]; rfl
          rw [← hl] at hok htr q0 q1 q2
          obtain ⟨K, hK⟩ : ∃ K, K = l.all.length := ⟨_, rfl⟩
          have ok2 := hok.ra
          have ok3 := hok.tm
          rw [← hK] at q0 htr ok2 ok3
          have hKm : K ≤ 1000000 := Nat.le_trans ok3 Ht.out
          have hpn : ∀ y ∈ l.all.drop l.rcv, 0 ≤ y := fun y hy => by have := hok.pos y (List.mem_of_mem_drop hy); omega
          obtain ⟨s0, hs0'⟩ : ∃ s0, s0 = sA + psum (f i) j := ⟨_, rfl⟩
          have hbdk : ∀ k, -9223372036854775808 ≤ s0 + ((l.all.drop l.rcv).take k).sum ∧ s0 + ((l.all.drop l.rcv).take k).sum ≤ 9223372036854775807 := fun k => by
            have h1 := sum_take_le (l.all.drop l.rcv) hpn k
            have h2 := Hbd.out i j _ hlt hlt2 h1.1 (by rw [hfl]; exact h1.2)
            rw [← HsA.out, ← hs0'] at h2
            omega
          rw [← hs0']
          have Hs0 := Lib.hid hs0'
          have Hbdk := Lib.hid hbdk
          have Hfl := Lib.hid hfl
          have HK := Lib.hid hK
          have Htr := Lib.hid htr
          have Hfr2 := Lib.hid hfr
          have Hm := Lib.hid hKm
          have Hra := Lib.hid ok2
          clear hfr hE hx ho hrow hvr hv hok hl hfl hK ok2 ok3 hKm hpn hs0' hbdk htr hvM
          go_wp2_with fail
          go_loopw [3, 7] (fun s kv wr' => ∃ k : Nat, k ≤ K - l.rcv ∧ kv = .int .i64 ((l.rcv + k : Nat) : Int) ∧ s = .int .i64 (s0 + ((l.all.drop l.rcv).take k).sum) ∧ wr' = wr.alloc (.cells #[.slice A K cap, .int .i64 l.rcv, .int .i64 l.conf, .slice AM nM capM] 149)) (fun _ kv _ => K - (intOf kv).toNat)
          case atStart => exact ⟨0, Nat.zero_le _, rfl, by simp, rfl⟩
          case round =>
            obtain ⟨k, hk, rfl, rfl, rfl⟩ := hrel
            have hb := heap_alloc_new wr (.cells #[.slice A K cap, .int .i64 l.rcv, .int .i64 l.conf, .slice AM nM capM] 149)
            obtain ⟨b0, _⟩ := four_cells hb
            by_cases hlt3 : l.rcv + k < K
            · have h3I : ((l.rcv + k : Nat) : Int) < K := by omega
              have hk0 : ¬ ((l.rcv + k : Nat) : Int) < 0 := by omega
              have hx : (l.all.drop l.rcv)[k]? = some (l.all[l.rcv + k]'(by rw [← HK.out]; exact hlt3)) := by rw [List.getElem?_drop]; exact List.getElem?_eq_getElem _
              have hx' : l.all[l.rcv + k]? = some (l.all[l.rcv + k]'(by rw [← HK.out]; exact hlt3)) := List.getElem?_eq_getElem _
              generalize l.all[l.rcv + k]'(by rw [← HK.out]; exact hlt3) = y at hx hx'
              have htr2 := Htr.out.fr ((Fr.refl None' wr).alloc (.cells #[.slice A K cap, .int .i64 l.rcv, .int .i64 l.conf, .slice AM nM capM] 149)) (fun _ _ h => h)
              obtain ⟨gi, offi, capi, hvi, _, hcy, _⟩ := arr_get (f := icell) (fun _ => rfl) htr2 hx' rfl
              cases hvi
              have hst := sum_take_succ _ k y hx
              have hw := (Hbdk.out (k + 1))
              rw [hst] at hw
              have hw' : wrap64 (s0 + ((l.all.drop l.rcv).take k).sum + y) = s0 + ((l.all.drop l.rcv).take k).sum + y := w64 (by omega) (by omega)
              have Hst := Lib.hid hst
              have hwk : wrap64 ((l.rcv : Int) + (k : Int) + 1) = ((l.rcv + (k + 1) : Nat) : Int) := by rw [w64 (by have := Hm.out; omega) (by have := Hm.out; omega)]; omega
              have Hwk := Lib.hid hwk
              generalize ((l.all.drop l.rcv).take k).sum = sk at *
              clear hst hw hx hx' hb htr2 hwk
              go_wp2_with fail
              go_roundw
              case rel => exact ⟨k + 1, by (clear hw'; omega), by rw [Hwk.out], by rw [hw', Hst.out, Int.add_assoc], trivial⟩
              case measure => (clear hw'; rw [Hwk.out]; simp [intOf]; omega)
            · have hkn : k = K - l.rcv := by omega
              have hfull : (l.all.drop l.rcv).take k = l.all.drop l.rcv := List.take_of_length_le (by rw [List.length_drop, ← HK.out]; omega)
              rw [hfull, ← Hfl.out]
              have h3I : ¬ ((l.rcv + k : Nat) : Int) < K := by omega
              have h4 := psum_succ (f i) j
              have H4 := Lib.hid h4
              clear hlt3 hk hkn hfull hb h4
              go_wp2_with fail
              go_roundw
              case rel => exact ⟨j + 1, hlt2, by go_num, by rw [Hs0.out, H4.out, Int.add_assoc], Hfr2.out.alloc _⟩
              case measure => simp [intOf]; omega
        · obtain rfl : j = n := by omega
          clear hlt2
          have H4 := Lib.hid (psum_succ (fun a => psum (f a) j) i)
          have Hfr2 := Lib.hid hfr
          clear hfr hE
          go_wp2_with fail
          go_roundw
          case rel => exact ⟨i + 1, hlt, by go_num, by rw [H4.out, HsA.out], Hfr2.out⟩
          case measure => simp [intOf]; omega
    · obtain rfl : i = n := by omega
      clear hlt
      have Hfr := Lib.hid hfr
      clear hfr hE
      go_wp2_with fail
      go_ret
      exact ⟨rfl, Hfr.out⟩
end Go.Proofs.Ytdjaofkbgkifkaa

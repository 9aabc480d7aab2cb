/- Package escrow: Deliver of a message that is lost: the walk. -/
import Derived.Test.YtdjaofkbgkifkaaE12
set_option linter.unusedVariables false
set_option linter.unusedSimpArgs false
namespace Go.Proofs.Ytdjaofkbgkifkaa
open Go.RowKit

theorem Half.drew {w wX : World} {F : Nat → Prop} {g : Nat} {S1 : ES} {a b : Int} {m : EM} {vA : Value} {mb : Nat} {L : List WE} {lk : Nat} {lb : Int → Int → Nat} {bm : Nat} {v1 : Value} {ρ : Nat → Role} {vT vM : Int → Int → Value} {mz : Int → Int → List (Value × EM)}
    (h : Half w wX F g S1 a b m vA mb L lk lb bm v1 ρ vT vM mz) : Half w wX.drew F g S1 a b m vA mb L lk lb bm v1 ρ vT vM mz :=
  ⟨h.at_.fr ((Fr.refl None' _).drew) (fun _ _ h => h), h.foot, h.fr.drew, h.rd.keep (Nat.le_refl _) (fun _ _ _ => rfl), h.box, h.oth, h.new⟩
/-- The put of the first message, from behind the take. -/
theorem half_put_ok {w wX : World} {F : Nat → Prop} {g : Nat} {S1 : ES} {a b : Int} {m : EM} {vA : Value} {mb : Nat} {L : List WE} {lk : Nat} {lb : Int → Int → Nat} {bm : Nat} {A1 : Option Addr} {n1 c1 : Nat} {ρ : Nat → Role} {vT vM : Int → Int → Value} {mz : Int → Int → List (Value × EM)}
    (h : Half w wX F g S1 a b m vA mb L lk lb bm (.slice A1 n1 c1) ρ vT vM mz) (hcut : ∀ k, wX.heap.size ≤ k → ρ k = .other) (hp : pairB S1.acc.length a b = true) (hl : (S1.ln a b).ms.length ≤ 100) :
    Calls Try.prog 72 #[.pointer (some ⟨lb a b, 3, none⟩), .agg #[.slice A1 n1 c1, .int .i64 m.l, .int .i64 m.c, .bool m.r]] wX fun e w4 => e = .returned (.tuple #[]) ∧ ∃ ρ1 vM1 mz1, Half w w4 F g (eNext S1 a b ((S1.ln a b).ms ++ [m])) a b m vA mb L lk lb bm (.slice A1 n1 c1) ρ1 vT vM1 mz1 ∧ (∀ k, w4.heap.size ≤ k → ρ1 k = .other) := by
  have hne : rowBlk (vM a b) ≠ some (lb a b) := by
    intro e
    have h2 := h.at_.rs a b hp _ e
    rw [h.at_.rl a b hp] at h2; cases h2
  have hzl : (mz a b).length ≤ 1000 := by rw [← List.length_map (f := (·.2)), h.at_.mq a b hp]; omega
  refine (put_ok (h.at_.line a b hp) (h.at_.ms a b hp) hzl A1 n1 c1 m hne).mono ?_
  rintro e w4 ⟨rfl, v3, hr3, hb3, hl3, hf3⟩
  obtain ⟨ρ1, hH, hc⟩ := half_put h hcut hp hr3 hb3 hl3 hf3
  exact ⟨rfl, ρ1, _, _, hH, hc⟩
theorem eNext_ms (S : ES) (a b : Int) (x : List EM) : ((eNext S a b x).ln a b).ms = x := by simp only [eNext, ES.putL_same]
theorem deliver_lost_once {U : Int} {t : Nat} {w : World} {F : Nat → Prop} {ρ : Nat → Role} {g : Nat} {S : ES} {vA : Value} {mb : Nat} {L : List WE} {lk : Nat} {lb : Int → Int → Nat} {vT vM : Int → Int → Value} {mz : Int → Int → List (Value × EM)}
    (h : EscAt w ρ g S vA mb L lk lb vT vM mz) (hF : ∀ k, ρ k ≠ .other → F k) (hcut : ∀ k, w.heap.size ≤ k → ρ k = .other) (hI : Inv U t S) (a b : Int) (hp : pairB S.acc.length a b = true) (m : EM) (r : List EM) (hm : (S.ln a b).ms = m :: r) :
    Calls Try.prog 29 #[.pointer (some ⟨g, 0, none⟩), .int .i64 a, .int .i64 b, .bool true, .bool false] w (EPost w F g (.bool true) (eNext S a b r)) := by
  have H := Lib.hid (line_at h a b hp)
  have H' := Lib.hid (line_at h b a (pairB_swap hp))
  obtain ⟨A1, n1, c1, zs, g0, off0, n0, cap0, hz, hq, hv, hb, h1, hrd⟩ := h.first hp hm
  have hl := h.line a b hp
  have hs := h.ms a b hp
  rw [hv] at hl hs
  rw [hz] at hs
  have hne : g0 ≠ lb a b := by
    intro e
    have h2 := h.rs a b hp g0 hb
    rw [e, h.rl a b hp] at h2; cases h2
  have HT := Lib.hid (take_ok hl hs h1 hne)
  have HA := Lib.hid (fun w2 x y z => half_take (w2 := w2) h hF hcut hp hz hq hv hb hrd x y z)
  clear h hF hcut hI hp hm hz hq hv hb h1 hrd hl hs hne
  go_enter Try.func29, Try.ntmps29
  go_wp2_with fail
  refine H.out.mono ?_
  rintro e w' ⟨rfl, rfl⟩
  go_wp2_with fail
  refine H'.out.mono ?_
  rintro e w' ⟨rfl, rfl⟩
  go_wp2_with fail
  refine HT.out.mono ?_
  rintro e w2 ⟨rfl, hr2, hl2, hf2⟩
  have HH := Lib.hid (HA.out w2 hr2 hl2 hf2)
  clear hr2 hl2 hf2 HA HT
  go_wp2_with fail
  go_ret
  obtain ⟨ρ1, hH, _⟩ := HH.out
  exact ⟨rfl, hH.esc, hH.fr⟩
set_option maxHeartbeats 4000000 in
set_option maxRecDepth 100000 in
theorem deliver_lost_again {U : Int} {t : Nat} {w : World} {F : Nat → Prop} {ρ : Nat → Role} {g : Nat} {S : ES} {vA : Value} {mb : Nat} {L : List WE} {lk : Nat} {lb : Int → Int → Nat} {vT vM : Int → Int → Value} {mz : Int → Int → List (Value × EM)}
    (h : EscAt w ρ g S vA mb L lk lb vT vM mz) (hF : ∀ k, ρ k ≠ .other → F k) (hcut : ∀ k, w.heap.size ≤ k → ρ k = .other) (hI : Inv U t S) (a b : Int) (hp : pairB S.acc.length a b = true) (m : EM) (r : List EM) (hm : (S.ln a b).ms = m :: r) :
    Calls Try.prog 29 #[.pointer (some ⟨g, 0, none⟩), .int .i64 a, .int .i64 b, .bool true, .bool true] w (EPost w F g (.bool true) (eNext S a b (r ++ [m]))) := by
  have H := Lib.hid (line_at h a b hp)
  have H' := Lib.hid (line_at h b a (pairB_swap hp))
  obtain ⟨A1, n1, c1, zs, g0, off0, n0, cap0, hz, hq, hv, hb, h1, hrd⟩ := h.first hp hm
  have hl := h.line a b hp
  have hs := h.ms a b hp
  rw [hv] at hl hs
  rw [hz] at hs
  have hne : g0 ≠ lb a b := by
    intro e
    have h2 := h.rs a b hp g0 hb
    rw [e, h.rl a b hp] at h2; cases h2
  have hok := hI.sh.ok hp
  have hrl : r.length ≤ 100 := by have := hok.mq; rw [hm] at this; simp only [List.length_cons] at this; omega
  have HT := Lib.hid (take_ok hl hs h1 hne)
  have HA := Lib.hid (fun w2 x y z => half_take (w2 := w2) h hF hcut hp hz hq hv hb hrd x y z)
  have Hp := Lib.hid hp
  have Hrl := Lib.hid hrl
  clear h hF hcut hI hp hm hz hq hv hb h1 hrd hl hs hne hok hrl
  go_enter Try.func29, Try.ntmps29
  go_wp2_with fail
  refine H.out.mono ?_
  rintro e w' ⟨rfl, rfl⟩
  go_wp2_with fail
  refine H'.out.mono ?_
  rintro e w' ⟨rfl, rfl⟩
  go_wp2_with fail
  refine HT.out.mono ?_
  rintro e w2 ⟨rfl, hr2, hl2, hf2⟩
  obtain ⟨ρ1, hH, hc1⟩ := HA.out w2 hr2 hl2 hf2
  have HH := Lib.hid hH
  have Hc1 := Lib.hid hc1
  clear hr2 hl2 hf2 HA HT hH hc1
  go_wp2_with fail
  generalize hbm : w2.heap.size = bm at *
  generalize w2.alloc (.cells #[.slice A1 n1 c1, .int .i64 m.l, .int .i64 m.c, .bool m.r] 137) = w3 at *
  obtain ⟨x0, x1, x2, x3, _⟩ := four_cells HH.out.box
  go_still_tail 4, (by kernel_rfl)
  change wpList _ _ _ _ _ w3.drew
  have HHd := Lib.hid HH.out.drew
  have Hcd := Lib.hid (show ∀ k, w3.drew.heap.size ≤ k → ρ1 k = .other from fun k hk => Hc1.out k (by
    have := (Array.getElem?_eq_some_iff.1 HH.out.box).1
    have hk' : w3.heap.size ≤ k := hk
    omega))
  clear HH Hc1 x0 x1 x2 x3
  generalize w3.drew = w4 at *
  go_wp2_with fail
  refine (half_put_ok HHd.out Hcd.out Hp.out (by rw [eNext_ms]; exact Hrl.out)).mono ?_
  rintro e w5 ⟨rfl, ρ2, vM2, mz2, hH2, hc2⟩
  have HH2 := Lib.hid hH2
  clear hH2 hc2 HHd Hcd
  go_wp2_with fail
  go_ret
  have e := eNext_eNext S a b r (r ++ [m])
  have hH := HH2.out
  rw [eNext_ms, e] at hH
  exact ⟨rfl, hH.esc, hH.fr⟩
end Go.Proofs.Ytdjaofkbgkifkaa

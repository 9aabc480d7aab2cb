/- Package escrow: two escrows side by side; EscrowOthers. -/
import Derived.Test.YtdjaofkbgkifkaaE30
set_option linter.unusedVariables false
set_option linter.unusedSimpArgs false
namespace Go.Proofs.Ytdjaofkbgkifkaa
open Go.RowKit

theorem do_ok {U : Int} {t : Nat} {w : World} {F : Nat → Prop} {g : Nat} {S : ES} (h : EscIs w F g S) (hU : U ≤ 1000000000) (hI : Inv U t S) (ht : t ≤ 1000000) (x : EA) (hx : x.u ≤ 9223372036854775807) :
    Calls Try.prog 36 #[.pointer (some ⟨g, 0, none⟩), .agg #[.int .i64 x.k, .int .i64 x.a, .int .i64 x.b, .int .i64 x.u, .bool x.lost, .bool x.again]] w (EPost w F g (.tuple #[.int .i64 (eDo S x).1.1, .bool (eDo S x).1.2]) (eDo S x).2) := by
  obtain ⟨k, a, b, u, lost, again⟩ := x
  have hf0 : Fr None' w (w.alloc (.cells #[.int .i64 k, .int .i64 a, .int .i64 b, .int .i64 u, .bool lost, .bool again] 60)) := (Fr.refl None' w).alloc _
  have H := Lib.hid (h.fr hf0 (fun _ _ h => h))
  have fin : ∀ (v : Value) (S' : ES) (w' : World) (e e' : Ending) (v' : Value), EPost (w.alloc (.cells #[.int .i64 k, .int .i64 a, .int .i64 b, .int .i64 u, .bool lost, .bool again] 60)) F g v S' e w' → e' = .returned v' → EPost w F g v' S' e' w' := by
    rintro v S' w' e e' v' ⟨_, hE, hf⟩ he
    have s1 := hf0.size
    refine ⟨he, hE.mono (fun k hk => ?_), (hf0.mono (fun _ _ h => h.elim)).trans hf (fun _ _ h => h)⟩
    rcases hk with hk | hk
    · exact .inl hk
    · exact .inr ⟨Nat.le_trans s1 hk.1, hk.2⟩
  have Fin := Lib.hid fin
  have HI := Lib.hid hI
  clear h fin hf0 hI
  by_cases k0 : k = 0
  · subst k0
    go_enter Try.func36, Try.ntmps36
    go_wp2_with fail
    refine (spend_ok H.out hU HI.out a u hx).mono ?_
    rintro e w' hp
    obtain rfl := hp.1
    have HP := Lib.hid hp
    clear hp
    go_wp2_with fail
    exact bodyPost_ret (results_tmp2 rfl _ _ _) rfl (Fin.out _ _ _ _ _ _ HP.out rfl)
  by_cases k1 : k = 1
  · subst k1
    go_enter Try.func36, Try.ntmps36
    go_wp2_with fail
    refine (return_ok H.out hU HI.out a u hx).mono ?_
    rintro e w' hp
    obtain rfl := hp.1
    have HP := Lib.hid hp
    clear hp
    go_wp2_with fail
    exact bodyPost_ret (results_tmp2 rfl _ _ _) rfl (Fin.out _ _ _ _ _ _ HP.out rfl)
  by_cases k2 : k = 2
  · subst k2
    go_enter Try.func36, Try.ntmps36
    go_wp2_with fail
    refine (give_ok H.out hU HI.out ht a b u).mono ?_
    rintro e w' hp
    obtain rfl := hp.1
    have HP := Lib.hid hp
    clear hp
    go_wp2_with fail
    exact bodyPost_ret (results_tmp2 rfl _ _ _) rfl (Fin.out _ _ _ _ _ _ HP.out rfl)
  by_cases k3 : k = 3
  · subst k3
    go_enter Try.func36, Try.ntmps36
    go_wp2_with fail
    refine (send_ok H.out HI.out a b).mono ?_
    rintro e w' hp
    obtain rfl := hp.1
    have HP := Lib.hid hp
    clear hp
    go_wp2_with fail
    exact bodyPost_ret (results_tmp2 rfl _ _ _) rfl (Fin.out _ _ _ _ _ _ HP.out rfl)
  by_cases k4 : k = 4
  · subst k4
    go_enter Try.func36, Try.ntmps36
    go_wp2_with fail
    refine (deliver_ok H.out hU HI.out ht a b lost again).mono ?_
    rintro e w' hp
    obtain rfl := hp.1
    have HP := Lib.hid hp
    clear hp
    go_wp2_with fail
    exact bodyPost_ret (results_tmp2 rfl _ _ _) rfl (Fin.out _ _ _ _ _ _ HP.out rfl)
  · have e : eDo S ⟨k, a, b, u, lost, again⟩ = (((eRevoke S a).1, false), (eRevoke S a).2) := by
      unfold eDo
      simp only []
      rw [if_neg k0, if_neg k1, if_neg k2, if_neg k3, if_neg k4]
    rw [e]
    clear e
    go_enter Try.func36, Try.ntmps36
    go_wp2_with fail
    refine (revoke_ok H.out HI.out a).mono ?_
    rintro e w' hp
    obtain rfl := hp.1
    have HP := Lib.hid hp
    clear hp
    go_wp2_with fail
    exact bodyPost_ret (results_tmp2 rfl _ _ _) rfl (Fin.out _ _ _ _ _ _ HP.out rfl)
/-- Two escrows made since w0, apart. -/
structure Two (U : Int) (t : Nat) (w0 w : World) (gx : Nat) (X : ES) (gy : Nat) (Y : ES) : Prop where
  is : ∃ Fx Fy : Nat → Prop, EscIs w Fx gx X ∧ EscIs w Fy gy Y ∧ (∀ k, Fx k → ¬ Fy k) ∧ (∀ k, Fx k → Own w0.heap.size w k) ∧ (∀ k, Fy k → Own w0.heap.size w k)
  ix : Inv U t X
  iy : Inv U t Y
  fr : Fr None' w0 w
  hU : U ≤ 1000000000
theorem Two.swap {U : Int} {t : Nat} {w0 w : World} {gx gy : Nat} {X Y : ES} (h : Two U t w0 w gx X gy Y) : Two U t w0 w gy Y gx X := by
  obtain ⟨Fx, Fy, h1, h2, h3, h4, h5⟩ := h.is
  exact ⟨⟨Fy, Fx, h2, h1, fun k hy hx => h3 k hx hy, h5, h4⟩, h.iy, h.ix, h.fr, h.hU⟩
theorem Two.mono {U : Int} {t t' : Nat} {w0 w : World} {gx gy : Nat} {X Y : ES} (h : Two U t w0 w gx X gy Y) (ht : t ≤ t') : Two U t' w0 w gx X gy Y := ⟨h.is, h.ix.mono ht, h.iy.mono ht, h.fr, h.hU⟩
theorem Two.frame {U : Int} {t : Nat} {w0 w w' : World} {gx gy : Nat} {X Y : ES} (h : Two U t w0 w gx X gy Y) (hf : Fr None' w w') : Two U t w0 w' gx X gy Y := by
  obtain ⟨Fx, Fy, h1, h2, h3, h4, h5⟩ := h.is
  exact ⟨⟨Fx, Fy, h1.fr hf (fun _ _ h => h), h2.fr hf (fun _ _ h => h), h3, fun k hk => ⟨(h4 k hk).1, Nat.lt_of_lt_of_le (h4 k hk).2 hf.size⟩, fun k hk => ⟨(h5 k hk).1, Nat.lt_of_lt_of_le (h5 k hk).2 hf.size⟩⟩, h.ix, h.iy, h.fr.trans0 hf, h.hU⟩
/-- A call on the first. -/
theorem Two.call {U : Int} {t t' : Nat} {w0 w : World} {gx gy : Nat} {X X' Y : ES} (h : Two U t w0 w gx X gy Y) (f : FuncId) (args : Array Value) (v : Value) (ht : t ≤ t') (hi : Inv U t' X')
    (hc : ∀ F, EscIs w F gx X → Calls Try.prog f args w (EPost w F gx v X')) : Calls Try.prog f args w fun e w' => e = .returned v ∧ Two U t' w0 w' gx X' gy Y := by
  obtain ⟨Fx, Fy, h1, h2, h3, h4, h5⟩ := h.is
  refine (hc Fx h1).mono ?_
  rintro e w' ⟨he, hE, hf⟩
  have s1 := h.fr.size
  have s2 := hf.size
  refine ⟨he, ⟨_, Fy, hE, h2.fr hf (fun k hy hx => h3 k hx hy), fun k hx hy => ?_, fun k hx => ?_, fun k hy => ⟨(h5 k hy).1, Nat.lt_of_lt_of_le (h5 k hy).2 s2⟩⟩, hi, h.iy.mono ht, h.fr.trans hf (fun i hil hx => by have := (h4 i hx).1; omega), h.hU⟩
  · rcases hx with hx | hx
    · exact h3 k hx hy
    · have := (h5 k hy).2; omega
  · rcases hx with hx | hx
    · exact ⟨(h4 k hx).1, Nat.lt_of_lt_of_le (h4 k hx).2 s2⟩
    · exact ⟨by omega, hx.2⟩
section
variable {U : Int} {t : Nat} {w0 w : World} {gx gy : Nat} {X Y : ES}
theorem t_do (h : Two U t w0 w gx X gy Y) (ht : t ≤ 1000000) (x : EA) (hx : x.u ≤ 9223372036854775807) :
    Calls Try.prog 36 #[.pointer (some ⟨gx, 0, none⟩), .agg #[.int .i64 x.k, .int .i64 x.a, .int .i64 x.b, .int .i64 x.u, .bool x.lost, .bool x.again]] w fun e w' => e = .returned (.tuple #[.int .i64 (eDo X x).1.1, .bool (eDo X x).1.2]) ∧ Two U (t + 1) w0 w' gx (eDo X x).2 gy Y :=
  h.call _ _ _ (Nat.le_succ t) (eDo_inv h.ix x) (fun F hF => do_ok hF h.hU h.ix ht x hx)
theorem t_give (h : Two U t w0 w gx X gy Y) (ht : t ≤ 1000000) (a b k : Int) : Calls Try.prog 27 #[.pointer (some ⟨gx, 0, none⟩), .int .i64 a, .int .i64 b, .int .i64 k] w fun e w' => e = .returned (.int .i64 (eGive X a b k).1) ∧ Two U (t + 1) w0 w' gx (eGive X a b k).2 gy Y :=
  h.call _ _ _ (Nat.le_succ t) (eGive_inv h.ix a b k) (fun F hF => give_ok hF h.hU h.ix ht a b k)
theorem t_send (h : Two U t w0 w gx X gy Y) (a b : Int) : Calls Try.prog 28 #[.pointer (some ⟨gx, 0, none⟩), .int .i64 a, .int .i64 b] w fun e w' => e = .returned (.int .i64 (eSend X a b).1) ∧ Two U t w0 w' gx (eSend X a b).2 gy Y :=
  h.call _ _ _ (Nat.le_refl t) (eSend_inv h.ix a b) (fun F hF => send_ok hF h.ix a b)
theorem t_deliver (h : Two U t w0 w gx X gy Y) (ht : t ≤ 1000000) (a b : Int) (lost again : Bool) : Calls Try.prog 29 #[.pointer (some ⟨gx, 0, none⟩), .int .i64 a, .int .i64 b, .bool lost, .bool again] w fun e w' => e = .returned (.bool (eDeliver X a b lost again).1) ∧ Two U t w0 w' gx (eDeliver X a b lost again).2 gy Y :=
  h.call _ _ _ (Nat.le_refl t) (eDeliver_inv h.ix a b lost again) (fun F hF => deliver_ok hF h.hU h.ix ht a b lost again)
theorem t_spend (h : Two U t w0 w gx X gy Y) (i k : Int) (hk : k ≤ 9223372036854775807) : Calls Try.prog 21 #[.pointer (some ⟨gx, 0, none⟩), .int .i64 i, .int .i64 k] w fun e w' => e = .returned (.int .i64 (eSpend X i k).1) ∧ Two U t w0 w' gx (eSpend X i k).2 gy Y :=
  h.call _ _ _ (Nat.le_refl t) (eSpend_inv h.ix i k) (fun F hF => spend_ok hF h.hU h.ix i k hk)
theorem t_have (h : Two U t w0 w gx X gy Y) (i : Int) : Calls Try.prog 31 #[.pointer (some ⟨gx, 0, none⟩), .int .i64 i] w fun e w' => e = .returned (.int .i64 (eHave X i)) ∧ Two U t w0 w' gx X gy Y := by
  obtain ⟨Fx, _, h1, _⟩ := h.is
  exact (have_ok h1 h.ix.sh.n8 i).mono fun e w' ⟨he, hw⟩ => ⟨he, hw ▸ h⟩
end
end Go.Proofs.Ytdjaofkbgkifkaa

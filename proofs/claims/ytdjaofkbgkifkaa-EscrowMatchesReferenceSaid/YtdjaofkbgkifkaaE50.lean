/- The reference of chapter 36: Deliver whole, an operation of the law on the reference; no escrow at all; an escrow and a reference apart, in the same state. -/
import Derived.Test.YtdjaofkbgkifkaaE46
import Derived.Test.YtdjaofkbgkifkaaE48
set_option linter.unusedVariables false
set_option linter.unusedSimpArgs false
namespace Go.Proofs.Ytdjaofkbgkifkaa
open Go.RowKit

theorem rdeliver_ok {U : Int} {t : Nat} {w : World} {F : Nat → Prop} {g : Nat} {S : ES} (h : RefIs w F g S) (hU : U ≤ 1000000000) (hI : Inv U t S) (ht : t ≤ 1000000) (a b : Int) (lost again : Bool) :
    Calls Try.prog 80 #[.pointer (some ⟨g, 0, none⟩), .int .i64 a, .int .i64 b, .bool lost, .bool again] w (RPost w F g (.bool (eDeliver S a b lost again).1) (eDeliver S a b lost again).2) := by
  have h0 := h
  obtain ⟨ρ, vU, vS, vR, vP, vr, vT, vM, mz, h, hF⟩ := h
  by_cases hp : pairB S.acc.length a b = false
  · have e : eDeliver S a b lost again = (false, S) := by unfold eDeliver; rw [if_pos hp]
    rw [e]
    obtain ⟨c0, _⟩ := h.cells
    obtain ⟨A, cap, rfl⟩ := arr_form ucell_len h.un
    exact (rdel_arg c0 a b lost again hp).mono fun _ _ he => RPost.same h0 he
  · have hp' : pairB S.acc.length a b = true := by cases e : pairB S.acc.length a b <;> simp_all
    obtain ⟨x, y, rfl, rfl, hx, hy, hne⟩ := pairB_nat hp'
    cases hms : (S.ln x y).ms with
    | nil =>
      have e : eDeliver S x y lost again = (false, S) := by unfold eDeliver; rw [if_neg hp, hms]
      rw [e]
      exact (rdel_empty h hx hy hne hms lost again).mono fun _ _ he => RPost.same h0 he
    | cons m r =>
      have e : eDeliver S x y lost again = (true, if lost then eNext S x y (if again then r ++ [m] else r) else eTake (eNext S x y (if again then r ++ [m] else r)) x y m) := by unfold eDeliver; rw [if_neg hp, hms]
      rw [e]
      cases again with
      | true => cases lost <;> exact rdel_again h hF hU hI ht hx hy hne hms _
      | false => cases lost <;> exact rdel_once h hF hU hI ht hx hy hne hms _
theorem want_ok {U : Int} {t : Nat} {w : World} {F : Nat → Prop} {g : Nat} {S : ES} (h : RefIs w F g S) (hU : U ≤ 1000000000) (hI : Inv U t S) (ht : t ≤ 1000000) (x : EA) (hx : x.u ≤ 9223372036854775807) :
    Calls Try.prog 37 #[.pointer (some ⟨g, 0, none⟩), .agg #[.int .i64 x.k, .int .i64 x.a, .int .i64 x.b, .int .i64 x.u, .bool x.lost, .bool x.again]] w (RPost w F g (.tuple #[.int .i64 (eDo S x).1.1, .bool (eDo S x).1.2]) (eDo S x).2) := by
  obtain ⟨k, a, b, u, lost, again⟩ := x
  have hf0 : Fr None' w (w.alloc (.cells #[.int .i64 k, .int .i64 a, .int .i64 b, .int .i64 u, .bool lost, .bool again] 60)) := (Fr.refl None' w).alloc _
  have H := Lib.hid (h.fr hf0 (fun _ _ h => h))
  have fin : ∀ (v : Value) (S' : ES) (w' : World) (e e' : Ending) (v' : Value), RPost (w.alloc (.cells #[.int .i64 k, .int .i64 a, .int .i64 b, .int .i64 u, .bool lost, .bool again] 60)) F g v S' e w' → e' = .returned v' → RPost w F g v' S' e' w' := by
    rintro v S' w' e e' v' ⟨_, hE, hf⟩ he
    have s1 := hf0.size
    refine ⟨he, hE.mono (fun k hk => ?_), (hf0.mono (fun _ _ h => h.elim)).trans hf (fun _ _ h => h)⟩
    rcases hk with hk | hk
    · exact .inl hk
    · exact .inr ⟨Nat.le_trans s1 hk.1, hk.2⟩
  have Fin := Lib.hid fin
  have HI := Lib.hid hI
  clear h fin hf0 hI
  by_cases k0 : k = 0
  · subst k0
    go_enter Try.func37, Try.ntmps37
    go_wp2_with fail
    refine (rspend_ok H.out hU HI.out a u hx).mono ?_
    rintro e w' hp
    obtain rfl := hp.1
    have HP := Lib.hid hp
    clear hp
    go_wp2_with fail
    exact bodyPost_ret (results_tmp2 rfl _ _ _) rfl (Fin.out _ _ _ _ _ _ HP.out rfl)
  by_cases k1 : k = 1
  · subst k1
    go_enter Try.func37, Try.ntmps37
    go_wp2_with fail
    refine (rreturn_ok H.out hU HI.out a u hx).mono ?_
    rintro e w' hp
    obtain rfl := hp.1
    have HP := Lib.hid hp
    clear hp
    go_wp2_with fail
    exact bodyPost_ret (results_tmp2 rfl _ _ _) rfl (Fin.out _ _ _ _ _ _ HP.out rfl)
  by_cases k2 : k = 2
  · subst k2
    go_enter Try.func37, Try.ntmps37
    go_wp2_with fail
    refine (rgive_ok H.out hU HI.out ht a b u).mono ?_
    rintro e w' hp
    obtain rfl := hp.1
    have HP := Lib.hid hp
    clear hp
    go_wp2_with fail
    exact bodyPost_ret (results_tmp2 rfl _ _ _) rfl (Fin.out _ _ _ _ _ _ HP.out rfl)
  by_cases k3 : k = 3
  · subst k3
    go_enter Try.func37, Try.ntmps37
    go_wp2_with fail
    refine (rsend_ok H.out HI.out ht a b).mono ?_
    rintro e w' hp
    obtain rfl := hp.1
    have HP := Lib.hid hp
    clear hp
    go_wp2_with fail
    exact bodyPost_ret (results_tmp2 rfl _ _ _) rfl (Fin.out _ _ _ _ _ _ HP.out rfl)
  by_cases k4 : k = 4
  · subst k4
    go_enter Try.func37, Try.ntmps37
    go_wp2_with fail
    refine (rdeliver_ok H.out hU HI.out ht a b lost again).mono ?_
    rintro e w' hp
    obtain rfl := hp.1
    have HP := Lib.hid hp
    clear hp
    go_wp2_with fail
    exact bodyPost_ret (results_tmp2 rfl _ _ _) rfl (Fin.out _ _ _ _ _ _ HP.out rfl)
  · have e : eDo S ⟨k, a, b, u, lost, again⟩ = (((eRevoke S a).1, false), (eRevoke S a).2) := by
      unfold eDo
      simp only []
      rw [if_neg k0, if_neg k1, if_neg k2, if_neg k3, if_neg k4]
    rw [e]
    clear e
    go_enter Try.func37, Try.ntmps37
    go_wp2_with fail
    refine (rrevoke_ok H.out a).mono ?_
    rintro e w' hp
    obtain rfl := hp.1
    have HP := Lib.hid hp
    clear hp
    go_wp2_with fail
    exact bodyPost_ret (results_tmp2 rfl _ _ _) rfl (Fin.out _ _ _ _ _ _ HP.out rfl)
section
set_option maxRecDepth 100000
theorem return_nil (i k : Int) (hk2 : k ≤ 9223372036854775807) (w : World) : Calls Try.prog 25 #[.pointer none, .int .i64 i, .int .i64 k] w fun e w' => e = .returned (.int .i64 1) ∧ w' = w := by
  by_cases hk : k < 1
  · exact return_arg _ i k hk w
  · exact return_via _ i k (by omega) w _ _ (Lib.hid (change_nil i k _ w)) 1 rfl
theorem give_nil (a b k : Int) (w : World) : Calls Try.prog 27 #[.pointer none, .int .i64 a, .int .i64 b, .int .i64 k] w fun e w' => e = .returned (.int .i64 1) ∧ w' = w := by
  go_enter Try.func27, Try.ntmps27
  go_wp2_with fail
  refine (line_nil a b w).mono ?_
  rintro e w' ⟨rfl, rfl⟩
  go_wp2_with fail
  go_ret
  exact ⟨rfl, rfl⟩
theorem send_nil (a b : Int) (w : World) : Calls Try.prog 28 #[.pointer none, .int .i64 a, .int .i64 b] w fun e w' => e = .returned (.int .i64 1) ∧ w' = w := by
  go_enter Try.func28, Try.ntmps28
  go_wp2_with fail
  refine (line_nil a b w).mono ?_
  rintro e w' ⟨rfl, rfl⟩
  go_wp2_with fail
  go_ret
  exact ⟨rfl, rfl⟩
theorem deliver_nil (a b : Int) (lost again : Bool) (w : World) : Calls Try.prog 29 #[.pointer none, .int .i64 a, .int .i64 b, .bool lost, .bool again] w fun e w' => e = .returned (.bool false) ∧ w' = w := by
  go_enter Try.func29, Try.ntmps29
  go_wp2_with fail
  refine (line_nil a b w).mono ?_
  rintro e w' ⟨rfl, rfl⟩
  go_wp2_with fail
  refine (line_nil b a w').mono ?_
  rintro e w1 ⟨rfl, rfl⟩
  go_wp2_with fail
  go_ret
  exact ⟨rfl, rfl⟩
theorem revoke_nil (a : Int) (w : World) : Calls Try.prog 43 #[.pointer none, .int .i64 a] w fun e w' => e = .returned (.int .i64 1) ∧ w' = w := by
  go_enter Try.func43, Try.ntmps43
  go_wp2_with fail
  refine (at_nil a w).mono ?_
  rintro e w' ⟨rfl, rfl⟩
  go_wp2_with fail
  go_ret
  exact ⟨rfl, rfl⟩
theorem is_nil (i : Int) (w : World) : Calls Try.prog 82 #[.pointer none, .int .i64 i] w fun e w' => e = .returned (.bool false) ∧ w' = w := by
  go_enter Try.func82, Try.ntmps82
  go_wp2_with fail
  go_ret
  exact ⟨rfl, rfl⟩
theorem rhave_nil (i : Int) (w : World) : Calls Try.prog 40 #[.pointer none, .int .i64 i] w fun e w' => e = .returned (.int .i64 0) ∧ w' = w := by
  go_enter Try.func40, Try.ntmps40
  go_wp2_with fail
  refine (is_nil i w).mono ?_
  rintro e w' ⟨rfl, rfl⟩
  go_wp2_with fail
  go_ret
  exact ⟨rfl, rfl⟩
theorem rspent_nil (w : World) : Calls Try.prog 38 #[.pointer none] w fun e w' => e = .returned (.int .i64 0) ∧ w' = w := by
  go_enter Try.func38, Try.ntmps38
  go_wp2_with fail
  go_ret
  exact ⟨rfl, rfl⟩
theorem rflying_nil (w : World) : Calls Try.prog 39 #[.pointer none] w fun e w' => e = .returned (.int .i64 0) ∧ w' = w := by
  go_enter Try.func39, Try.ntmps39
  go_wp2_with fail
  go_ret
  exact ⟨rfl, rfl⟩
theorem rspend_nil (i k : Int) (w : World) : Calls Try.prog 76 #[.pointer none, .int .i64 i, .int .i64 k] w fun e w' => e = .returned (.int .i64 1) ∧ w' = w := by
  go_enter Try.func76, Try.ntmps76
  go_wp2_with fail
  refine (is_nil _ w).mono ?_
  rintro e w' ⟨rfl, rfl⟩
  go_wp2_with fail
  go_ret
  exact ⟨rfl, rfl⟩
theorem rreturn_nil (i k : Int) (w : World) : Calls Try.prog 77 #[.pointer none, .int .i64 i, .int .i64 k] w fun e w' => e = .returned (.int .i64 1) ∧ w' = w := by
  go_enter Try.func77, Try.ntmps77
  go_wp2_with fail
  refine (is_nil _ w).mono ?_
  rintro e w' ⟨rfl, rfl⟩
  go_wp2_with fail
  go_ret
  exact ⟨rfl, rfl⟩
theorem rgive_nil (a b k : Int) (w : World) : Calls Try.prog 78 #[.pointer none, .int .i64 a, .int .i64 b, .int .i64 k] w fun e w' => e = .returned (.int .i64 1) ∧ w' = w := by
  go_enter Try.func78, Try.ntmps78
  go_wp2_with fail
  refine (is_nil _ w).mono ?_
  rintro e w' ⟨rfl, rfl⟩
  go_wp2_with fail
  go_ret
  exact ⟨rfl, rfl⟩
theorem rsend_nil (a b : Int) (w : World) : Calls Try.prog 79 #[.pointer none, .int .i64 a, .int .i64 b] w fun e w' => e = .returned (.int .i64 1) ∧ w' = w := by
  go_enter Try.func79, Try.ntmps79
  go_wp2_with fail
  refine (is_nil _ w).mono ?_
  rintro e w' ⟨rfl, rfl⟩
  go_wp2_with fail
  go_ret
  exact ⟨rfl, rfl⟩
theorem rdeliver_nil (a b : Int) (lost again : Bool) (w : World) : Calls Try.prog 80 #[.pointer none, .int .i64 a, .int .i64 b, .bool lost, .bool again] w fun e w' => e = .returned (.bool false) ∧ w' = w := by
  go_enter Try.func80, Try.ntmps80
  go_wp2_with fail
  refine (is_nil _ w).mono ?_
  rintro e w' ⟨rfl, rfl⟩
  go_wp2_with fail
  go_ret
  exact ⟨rfl, rfl⟩
theorem rrevoke_nil (a : Int) (w : World) : Calls Try.prog 81 #[.pointer none, .int .i64 a] w fun e w' => e = .returned (.int .i64 1) ∧ w' = w := by
  go_enter Try.func81, Try.ntmps81
  go_wp2_with fail
  refine (is_nil _ w).mono ?_
  rintro e w' ⟨rfl, rfl⟩
  go_wp2_with fail
  go_ret
  exact ⟨rfl, rfl⟩
def nilA (k : Int) : Int := if k = 4 then 0 else 1
theorem do_nil (x : EA) (hx : x.u ≤ 9223372036854775807) (w : World) :
    Calls Try.prog 36 #[.pointer none, .agg #[.int .i64 x.k, .int .i64 x.a, .int .i64 x.b, .int .i64 x.u, .bool x.lost, .bool x.again]] w fun e w' => e = .returned (.tuple #[.int .i64 (nilA x.k), .bool false]) ∧ Fr None' w w' := by
  obtain ⟨k, a, b, u, lost, again⟩ := x
  have hf0 : Fr None' w (w.alloc (.cells #[.int .i64 k, .int .i64 a, .int .i64 b, .int .i64 u, .bool lost, .bool again] 60)) := (Fr.refl None' w).alloc _
  have Hf0 := Lib.hid hf0
  clear hf0
  by_cases k0 : k = 0
  · subst k0
    go_enter Try.func36, Try.ntmps36
    go_wp2_with fail
    refine (spend_nil a u hx _).mono ?_
    rintro e w' ⟨rfl, rfl⟩
    go_wp2_with fail
    exact bodyPost_ret (results_tmp2 rfl _ _ _) rfl ⟨rfl, Hf0.out⟩
  by_cases k1 : k = 1
  · subst k1
    go_enter Try.func36, Try.ntmps36
    go_wp2_with fail
    refine (return_nil a u hx _).mono ?_
    rintro e w' ⟨rfl, rfl⟩
    go_wp2_with fail
    exact bodyPost_ret (results_tmp2 rfl _ _ _) rfl ⟨rfl, Hf0.out⟩
  by_cases k2 : k = 2
  · subst k2
    go_enter Try.func36, Try.ntmps36
    go_wp2_with fail
    refine (give_nil a b u _).mono ?_
    rintro e w' ⟨rfl, rfl⟩
    go_wp2_with fail
    exact bodyPost_ret (results_tmp2 rfl _ _ _) rfl ⟨rfl, Hf0.out⟩
  by_cases k3 : k = 3
  · subst k3
    go_enter Try.func36, Try.ntmps36
    go_wp2_with fail
    refine (send_nil a b _).mono ?_
    rintro e w' ⟨rfl, rfl⟩
    go_wp2_with fail
    exact bodyPost_ret (results_tmp2 rfl _ _ _) rfl ⟨rfl, Hf0.out⟩
  by_cases k4 : k = 4
  · subst k4
    go_enter Try.func36, Try.ntmps36
    go_wp2_with fail
    refine (deliver_nil a b lost again _).mono ?_
    rintro e w' ⟨rfl, rfl⟩
    go_wp2_with fail
    exact bodyPost_ret (results_tmp2 rfl _ _ _) rfl ⟨rfl, Hf0.out⟩
  have e : nilA k = 1 := by unfold nilA; rw [if_neg k4]
  rw [show (EA.mk k a b u lost again).k = k from rfl, e]
  clear e
  go_enter Try.func36, Try.ntmps36
  go_wp2_with fail
  refine (revoke_nil a _).mono ?_
  rintro e w' ⟨rfl, rfl⟩
  go_wp2_with fail
  exact bodyPost_ret (results_tmp2 rfl _ _ _) rfl ⟨rfl, Hf0.out⟩
theorem want_nil (x : EA) (hx : x.u ≤ 9223372036854775807) (w : World) :
    Calls Try.prog 37 #[.pointer none, .agg #[.int .i64 x.k, .int .i64 x.a, .int .i64 x.b, .int .i64 x.u, .bool x.lost, .bool x.again]] w fun e w' => e = .returned (.tuple #[.int .i64 (nilA x.k), .bool false]) ∧ Fr None' w w' := by
  obtain ⟨k, a, b, u, lost, again⟩ := x
  have hf0 : Fr None' w (w.alloc (.cells #[.int .i64 k, .int .i64 a, .int .i64 b, .int .i64 u, .bool lost, .bool again] 60)) := (Fr.refl None' w).alloc _
  have Hf0 := Lib.hid hf0
  clear hf0
  by_cases k0 : k = 0
  · subst k0
    go_enter Try.func37, Try.ntmps37
    go_wp2_with fail
    refine (rspend_nil a u _).mono ?_
    rintro e w' ⟨rfl, rfl⟩
    go_wp2_with fail
    exact bodyPost_ret (results_tmp2 rfl _ _ _) rfl ⟨rfl, Hf0.out⟩
  by_cases k1 : k = 1
  · subst k1
    go_enter Try.func37, Try.ntmps37
    go_wp2_with fail
    refine (rreturn_nil a u _).mono ?_
    rintro e w' ⟨rfl, rfl⟩
    go_wp2_with fail
    exact bodyPost_ret (results_tmp2 rfl _ _ _) rfl ⟨rfl, Hf0.out⟩
  by_cases k2 : k = 2
  · subst k2
    go_enter Try.func37, Try.ntmps37
    go_wp2_with fail
    refine (rgive_nil a b u _).mono ?_
    rintro e w' ⟨rfl, rfl⟩
    go_wp2_with fail
    exact bodyPost_ret (results_tmp2 rfl _ _ _) rfl ⟨rfl, Hf0.out⟩
  by_cases k3 : k = 3
  · subst k3
    go_enter Try.func37, Try.ntmps37
    go_wp2_with fail
    refine (rsend_nil a b _).mono ?_
    rintro e w' ⟨rfl, rfl⟩
    go_wp2_with fail
    exact bodyPost_ret (results_tmp2 rfl _ _ _) rfl ⟨rfl, Hf0.out⟩
  by_cases k4 : k = 4
  · subst k4
    go_enter Try.func37, Try.ntmps37
    go_wp2_with fail
    refine (rdeliver_nil a b lost again _).mono ?_
    rintro e w' ⟨rfl, rfl⟩
    go_wp2_with fail
    exact bodyPost_ret (results_tmp2 rfl _ _ _) rfl ⟨rfl, Hf0.out⟩
  have e : nilA k = 1 := by unfold nilA; rw [if_neg k4]
  rw [show (EA.mk k a b u lost again).k = k from rfl, e]
  clear e
  go_enter Try.func37, Try.ntmps37
  go_wp2_with fail
  refine (rrevoke_nil a _).mono ?_
  rintro e w' ⟨rfl, rfl⟩
  go_wp2_with fail
  exact bodyPost_ret (results_tmp2 rfl _ _ _) rfl ⟨rfl, Hf0.out⟩
end
structure Mix (U : Int) (t : Nat) (w0 w : World) (gx : Nat) (X : ES) (gy : Nat) (Y : ES) : Prop where
  is : ∃ Fx Fy : Nat → Prop, EscIs w Fx gx X ∧ RefIs w Fy gy Y ∧ (∀ k, Fx k → ¬ Fy k) ∧ (∀ k, Fx k → Own w0.heap.size w k) ∧ (∀ k, Fy k → Own w0.heap.size w k)
  ix : Inv U t X
  iy : Inv U t Y
  fr : Fr None' w0 w
  hU : U ≤ 1000000000
theorem Mix.frame {U : Int} {t : Nat} {w0 w w' : World} {gx gy : Nat} {X Y : ES} (h : Mix U t w0 w gx X gy Y) (hf : Fr None' w w') : Mix U t w0 w' gx X gy Y := by
  obtain ⟨Fx, Fy, h1, h2, h3, h4, h5⟩ := h.is
  exact ⟨⟨Fx, Fy, h1.fr hf (fun _ _ h => h), h2.fr hf (fun _ _ h => h), h3, fun k hk => ⟨(h4 k hk).1, Nat.lt_of_lt_of_le (h4 k hk).2 hf.size⟩, fun k hk => ⟨(h5 k hk).1, Nat.lt_of_lt_of_le (h5 k hk).2 hf.size⟩⟩, h.ix, h.iy, h.fr.trans0 hf, h.hU⟩
theorem Mix.call {U : Int} {t t' : Nat} {w0 w : World} {gx gy : Nat} {X X' Y : ES} (h : Mix U t w0 w gx X gy Y) (f : FuncId) (args : Array Value) (v : Value) (ht : t ≤ t') (hi : Inv U t' X')
    (hc : ∀ F, EscIs w F gx X → Calls Try.prog f args w (EPost w F gx v X')) : Calls Try.prog f args w fun e w' => e = .returned v ∧ Mix U t' w0 w' gx X' gy Y := by
  obtain ⟨Fx, Fy, h1, h2, h3, h4, h5⟩ := h.is
  refine (hc Fx h1).mono ?_
  rintro e w' ⟨he, hE, hf⟩
  have s1 := h.fr.size
  have s2 := hf.size
  refine ⟨he, ⟨_, Fy, hE, h2.fr hf (fun k hy hx => h3 k hx hy), fun k hx hy => ?_, fun k hx => ?_, fun k hy => ⟨(h5 k hy).1, Nat.lt_of_lt_of_le (h5 k hy).2 s2⟩⟩, hi, h.iy.mono ht, h.fr.trans hf (fun i hil hx => by have := (h4 i hx).1; omega), h.hU⟩
  · rcases hx with hx | hx
    · exact h3 k hx hy
    · have := (h5 k hy).2; omega
  · rcases hx with hx | hx
    · exact ⟨(h4 k hx).1, Nat.lt_of_lt_of_le (h4 k hx).2 s2⟩
    · exact ⟨by omega, hx.2⟩
theorem Mix.call2 {U : Int} {t t' : Nat} {w0 w : World} {gx gy : Nat} {X Y Y' : ES} (h : Mix U t w0 w gx X gy Y) (f : FuncId) (args : Array Value) (v : Value) (ht : t ≤ t') (hi : Inv U t' Y')
    (hc : ∀ F, RefIs w F gy Y → Calls Try.prog f args w (RPost w F gy v Y')) : Calls Try.prog f args w fun e w' => e = .returned v ∧ Mix U t' w0 w' gx X gy Y' := by
  obtain ⟨Fx, Fy, h1, h2, h3, h4, h5⟩ := h.is
  refine (hc Fy h2).mono ?_
  rintro e w' ⟨he, hE, hf⟩
  have s1 := h.fr.size
  have s2 := hf.size
  refine ⟨he, ⟨Fx, _, h1.fr hf (fun k hx hy => h3 k hx hy), hE, fun k hx hy => ?_, fun k hx => ⟨(h4 k hx).1, Nat.lt_of_lt_of_le (h4 k hx).2 s2⟩, fun k hy => ?_⟩, h.ix.mono ht, hi, h.fr.trans hf (fun i hil hx => by have := (h5 i hx).1; omega), h.hU⟩
  · rcases hy with hy | hy
    · exact h3 k hx hy
    · have := (h4 k hx).2; omega
  · rcases hy with hy | hy
    · exact ⟨(h5 k hy).1, Nat.lt_of_lt_of_le (h5 k hy).2 s2⟩
    · exact ⟨by omega, hy.2⟩
section
variable {U : Int} {t : Nat} {w0 w : World} {gx gy : Nat} {X Y : ES}
theorem x_do (h : Mix U t w0 w gx X gy Y) (ht : t ≤ 1000000) (x : EA) (hx : x.u ≤ 9223372036854775807) :
    Calls Try.prog 36 #[.pointer (some ⟨gx, 0, none⟩), .agg #[.int .i64 x.k, .int .i64 x.a, .int .i64 x.b, .int .i64 x.u, .bool x.lost, .bool x.again]] w fun e w' => e = .returned (.tuple #[.int .i64 (eDo X x).1.1, .bool (eDo X x).1.2]) ∧ Mix U (t + 1) w0 w' gx (eDo X x).2 gy Y :=
  h.call _ _ _ (Nat.le_succ t) (eDo_inv h.ix x) (fun F hF => do_ok hF h.hU h.ix ht x hx)
theorem y_want (h : Mix U t w0 w gx X gy Y) (ht : t ≤ 1000000) (x : EA) (hx : x.u ≤ 9223372036854775807) :
    Calls Try.prog 37 #[.pointer (some ⟨gy, 0, none⟩), .agg #[.int .i64 x.k, .int .i64 x.a, .int .i64 x.b, .int .i64 x.u, .bool x.lost, .bool x.again]] w fun e w' => e = .returned (.tuple #[.int .i64 (eDo Y x).1.1, .bool (eDo Y x).1.2]) ∧ Mix U (t + 1) w0 w' gx X gy (eDo Y x).2 :=
  h.call2 _ _ _ (Nat.le_succ t) (eDo_inv h.iy x) (fun F hF => want_ok hF h.hU h.iy ht x hx)
theorem x_spent (h : Mix U t w0 w gx X gy Y) : Calls Try.prog 33 #[.pointer (some ⟨gx, 0, none⟩)] w fun e w' => e = .returned (.int .i64 (eSpent X)) ∧ Mix U t w0 w' gx X gy Y ∧ Fr None' w w' := by
  obtain ⟨Fx, Fy, h1, _⟩ := h.is
  exact (spent_ok h1 h.hU h.ix).mono fun e w' ⟨he, hf⟩ => ⟨he, h.frame hf, hf⟩
theorem x_fly (h : Mix U t w0 w gx X gy Y) (ht : t ≤ 1000000) : Calls Try.prog 32 #[.pointer (some ⟨gx, 0, none⟩)] w fun e w' => e = .returned (.int .i64 (eFly X)) ∧ Mix U t w0 w' gx X gy Y ∧ Fr None' w w' := by
  obtain ⟨Fx, Fy, h1, _⟩ := h.is
  exact (flying_ok h1 h.hU h.ix ht).mono fun e w' ⟨he, hf⟩ => ⟨he, h.frame hf, hf⟩
theorem x_have (h : Mix U t w0 w gx X gy Y) (i : Int) : Calls Try.prog 31 #[.pointer (some ⟨gx, 0, none⟩), .int .i64 i] w fun e w' => e = .returned (.int .i64 (eHave X i)) ∧ Mix U t w0 w' gx X gy Y ∧ Fr None' w w' := by
  obtain ⟨Fx, Fy, h1, _⟩ := h.is
  exact (have_ok h1 h.ix.sh.n8 i).mono fun e w' ⟨he, hw⟩ => ⟨he, hw ▸ h, hw ▸ Fr.refl _ _⟩
theorem y_spent (h : Mix U t w0 w gx X gy Y) : Calls Try.prog 38 #[.pointer (some ⟨gy, 0, none⟩)] w fun e w' => e = .returned (.int .i64 (eSpent Y)) ∧ Mix U t w0 w' gx X gy Y ∧ Fr None' w w' := by
  obtain ⟨Fx, Fy, _, h1, _⟩ := h.is
  exact (rspent_ok h1 h.hU h.iy).mono fun e w' ⟨he, hw⟩ => ⟨he, hw ▸ h, hw ▸ Fr.refl _ _⟩
theorem y_fly (h : Mix U t w0 w gx X gy Y) (ht : t ≤ 1000000) : Calls Try.prog 39 #[.pointer (some ⟨gy, 0, none⟩)] w fun e w' => e = .returned (.int .i64 (eFly Y)) ∧ Mix U t w0 w' gx X gy Y ∧ Fr None' w w' := by
  obtain ⟨Fx, Fy, _, h1, _⟩ := h.is
  exact (rflying_ok h1 h.hU h.iy ht).mono fun e w' ⟨he, hf⟩ => ⟨he, h.frame hf, hf⟩
theorem y_have (h : Mix U t w0 w gx X gy Y) (i : Int) : Calls Try.prog 40 #[.pointer (some ⟨gy, 0, none⟩), .int .i64 i] w fun e w' => e = .returned (.int .i64 (eHave Y i)) ∧ Mix U t w0 w' gx X gy Y ∧ Fr None' w w' := by
  obtain ⟨Fx, Fy, _, h1, _⟩ := h.is
  exact (rhave_ok h1 i).mono fun e w' ⟨he, hw⟩ => ⟨he, hw ▸ h, hw ▸ Fr.refl _ _⟩
end
end Go.Proofs.Ytdjaofkbgkifkaa

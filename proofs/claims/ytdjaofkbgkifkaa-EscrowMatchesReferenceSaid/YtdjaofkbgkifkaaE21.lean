/- Package escrow: each call on an escrow that the caller owns; the law's do. -/
import Derived.Test.YtdjaofkbgkifkaaE20
import Derived.Test.YtdjaofkbgkifkaaOpen
set_option linter.unusedVariables false
set_option linter.unusedSimpArgs false
namespace Go.Proofs.Ytdjaofkbgkifkaa
open Go.RowKit

def Own (B : Nat) (w : World) (k : Nat) : Prop := B ≤ k ∧ k < w.heap.size
/-- An escrow made since the world w0, in which t transfers were made at most. -/
structure ESt (U : Int) (t : Nat) (w0 w : World) (g : Nat) (S : ES) : Prop where
  is : EscIs w (Own w0.heap.size w) g S
  inv : Inv U t S
  fr : Fr None' w0 w
  hU : U ≤ 1000000000
theorem ESt.mono {U : Int} {t t' : Nat} {w0 w : World} {g : Nat} {S : ES} (h : ESt U t w0 w g S) (ht : t ≤ t') : ESt U t' w0 w g S := ⟨h.is, h.inv.mono ht, h.fr, h.hU⟩
theorem ESt.after {U : Int} {t t' : Nat} {w0 w w' : World} {g : Nat} {S S' : ES} (h : ESt U t w0 w g S) {v : Value} {e : Ending} (hp : EPost w (Own w0.heap.size w) g v S' e w') (hi : Inv U t' S') : e = .returned v ∧ ESt U t' w0 w' g S' := by
  obtain ⟨he, hE, hf⟩ := hp
  have s1 := h.fr.size
  have s2 := hf.size
  refine ⟨he, hE.mono (fun k hk => ?_), hi, h.fr.trans hf (fun i hi hk => by have := hk.1; omega), h.hU⟩
  rcases hk with hk | hk
  · exact ⟨hk.1, by have := hk.2; omega⟩
  · exact ⟨by omega, hk.2⟩
theorem ESt.frame {U : Int} {t : Nat} {w0 w w' : World} {g : Nat} {S : ES} (h : ESt U t w0 w g S) (hf : Fr None' w w') : ESt U t w0 w' g S :=
  ⟨(h.is.fr hf (fun _ _ h => h)).mono (fun k hk => ⟨hk.1, Nat.lt_of_lt_of_le hk.2 hf.size⟩), h.inv, h.fr.trans0 hf, h.hU⟩
theorem s_spend {U : Int} {t : Nat} {w0 w : World} {g : Nat} {S : ES} (h : ESt U t w0 w g S) (i k : Int) (hk : k ≤ 9223372036854775807) : Calls Try.prog 21 #[.pointer (some ⟨g, 0, none⟩), .int .i64 i, .int .i64 k] w fun e w' => e = .returned (.int .i64 (eSpend S i k).1) ∧ ESt U t w0 w' g (eSpend S i k).2 :=
  (spend_ok h.is h.hU h.inv i k hk).mono fun e w' hp => h.after hp (eSpend_inv h.inv i k)
theorem s_return {U : Int} {t : Nat} {w0 w : World} {g : Nat} {S : ES} (h : ESt U t w0 w g S) (i k : Int) (hk : k ≤ 9223372036854775807) : Calls Try.prog 25 #[.pointer (some ⟨g, 0, none⟩), .int .i64 i, .int .i64 k] w fun e w' => e = .returned (.int .i64 (eReturn S i k).1) ∧ ESt U t w0 w' g (eReturn S i k).2 :=
  (return_ok h.is h.hU h.inv i k hk).mono fun e w' hp => h.after hp (eReturn_inv h.inv i k)
theorem s_revoke {U : Int} {t : Nat} {w0 w : World} {g : Nat} {S : ES} (h : ESt U t w0 w g S) (i : Int) : Calls Try.prog 43 #[.pointer (some ⟨g, 0, none⟩), .int .i64 i] w fun e w' => e = .returned (.int .i64 (eRevoke S i).1) ∧ ESt U t w0 w' g (eRevoke S i).2 :=
  (revoke_ok h.is h.inv i).mono fun e w' hp => h.after hp (eRevoke_inv h.inv i)
theorem s_give {U : Int} {t : Nat} {w0 w : World} {g : Nat} {S : ES} (h : ESt U t w0 w g S) (ht : t ≤ 1000000) (a b k : Int) : Calls Try.prog 27 #[.pointer (some ⟨g, 0, none⟩), .int .i64 a, .int .i64 b, .int .i64 k] w fun e w' => e = .returned (.int .i64 (eGive S a b k).1) ∧ ESt U (t + 1) w0 w' g (eGive S a b k).2 :=
  (give_ok h.is h.hU h.inv ht a b k).mono fun e w' hp => h.after hp (eGive_inv h.inv a b k)
theorem s_send {U : Int} {t : Nat} {w0 w : World} {g : Nat} {S : ES} (h : ESt U t w0 w g S) (a b : Int) : Calls Try.prog 28 #[.pointer (some ⟨g, 0, none⟩), .int .i64 a, .int .i64 b] w fun e w' => e = .returned (.int .i64 (eSend S a b).1) ∧ ESt U t w0 w' g (eSend S a b).2 :=
  (send_ok h.is h.inv a b).mono fun e w' hp => h.after hp (eSend_inv h.inv a b)
theorem s_deliver {U : Int} {t : Nat} {w0 w : World} {g : Nat} {S : ES} (h : ESt U t w0 w g S) (ht : t ≤ 1000000) (a b : Int) (lost again : Bool) : Calls Try.prog 29 #[.pointer (some ⟨g, 0, none⟩), .int .i64 a, .int .i64 b, .bool lost, .bool again] w fun e w' => e = .returned (.bool (eDeliver S a b lost again).1) ∧ ESt U t w0 w' g (eDeliver S a b lost again).2 :=
  (deliver_ok h.is h.hU h.inv ht a b lost again).mono fun e w' hp => h.after hp (eDeliver_inv h.inv a b lost again)
theorem s_have {U : Int} {t : Nat} {w0 w : World} {g : Nat} {S : ES} (h : ESt U t w0 w g S) (i : Int) : Calls Try.prog 31 #[.pointer (some ⟨g, 0, none⟩), .int .i64 i] w fun e w' => e = .returned (.int .i64 (eHave S i)) ∧ ESt U t w0 w' g S :=
  (have_ok h.is h.inv.sh.n8 i).mono fun e w' ⟨he, hw⟩ => ⟨he, hw ▸ h⟩
theorem s_fly {U : Int} {t : Nat} {w0 w : World} {g : Nat} {S : ES} (h : ESt U t w0 w g S) (ht : t ≤ 1000000) : Calls Try.prog 32 #[.pointer (some ⟨g, 0, none⟩)] w fun e w' => e = .returned (.int .i64 (eFly S)) ∧ ESt U t w0 w' g S :=
  (flying_ok h.is h.hU h.inv ht).mono fun e w' ⟨he, hf⟩ => ⟨he, h.frame hf⟩
theorem s_spent {U : Int} {t : Nat} {w0 w : World} {g : Nat} {S : ES} (h : ESt U t w0 w g S) : Calls Try.prog 33 #[.pointer (some ⟨g, 0, none⟩)] w fun e w' => e = .returned (.int .i64 (eSpent S)) ∧ ESt U t w0 w' g S :=
  (spent_ok h.is h.hU h.inv).mono fun e w' ⟨he, hf⟩ => ⟨he, h.frame hf⟩
theorem s_new (n : Nat) (u : Int) (w : World) (h1 : 1 ≤ n) (h8 : n ≤ 8) (hu : 0 ≤ u) (hu2 : u ≤ 1000000000) : Calls Try.prog 18 #[.int .i64 n, .int .i64 u] w fun e w' => ∃ g, e = .returned (.tuple #[.pointer (some ⟨g, 0, none⟩), .int .i64 0]) ∧ ESt u 0 w w' g (eNew n u) :=
  (enew_ok n u w h1 h8 hu hu2).mono fun e w' ⟨g, he, hE, hf⟩ => ⟨g, he, hE, eNew_inv h1 h8 hu 0, hf, hu2⟩
theorem deliver_nil0 (a b : Int) (lost again : Bool) (w : World) : Calls Try.prog 29 #[.pointer none, .int .i64 a, .int .i64 b, .bool lost, .bool again] w fun e w' => e = .returned (.bool false) ∧ w' = w := by
  go_enter Try.func29, Try.ntmps29
  go_wp2_with fail
  refine (line_nil a b w).mono ?_
  rintro e w' ⟨rfl, rfl⟩
  go_wp2_with fail
  refine (line_nil b a w').mono ?_
  rintro e w' ⟨rfl, rfl⟩
  go_wp2_with fail
  go_ret
  exact ⟨rfl, rfl⟩
def EA.cells (x : EA) : List Value := [.int .i64 x.k, .int .i64 x.a, .int .i64 x.b, .int .i64 x.u, .bool x.lost, .bool x.again]
theorem EA.cells_len (x : EA) : x.cells.length = 6 := rfl
/-- The law's do. -/
theorem s_do {U : Int} {t : Nat} {w0 w : World} {g : Nat} {S : ES} (h : ESt U t w0 w g S) (ht : t ≤ 1000000) (x : EA) (hx : x.u ≤ 9223372036854775807) :
    Calls Try.prog 36 #[.pointer (some ⟨g, 0, none⟩), .agg #[.int .i64 x.k, .int .i64 x.a, .int .i64 x.b, .int .i64 x.u, .bool x.lost, .bool x.again]] w fun e w' => e = .returned (.tuple #[.int .i64 (eDo S x).1.1, .bool (eDo S x).1.2]) ∧ ESt U (t + 1) w0 w' g (eDo S x).2 := by
  obtain ⟨k, a, b, u, lost, again⟩ := x
  have H := Lib.hid (h.frame ((Fr.refl None' w).alloc (.cells #[.int .i64 k, .int .i64 a, .int .i64 b, .int .i64 u, .bool lost, .bool again] 60)))
  clear h
  by_cases k0 : k = 0
  · subst k0
    go_enter Try.func36, Try.ntmps36
    go_wp2_with fail
    refine (s_spend H.out a u hx).mono ?_
    rintro e w' ⟨rfl, h'⟩
    have H' := Lib.hid h'
    clear h'
    go_wp2_with fail
    go_ret2
    exact ⟨rfl, H'.out.mono (Nat.le_succ t)⟩
  by_cases k1 : k = 1
  · subst k1
    go_enter Try.func36, Try.ntmps36
    go_wp2_with fail
    refine (s_return H.out a u hx).mono ?_
    rintro e w' ⟨rfl, h'⟩
    have H' := Lib.hid h'
    clear h'
    go_wp2_with fail
    go_ret2
    exact ⟨rfl, H'.out.mono (Nat.le_succ t)⟩
  by_cases k2 : k = 2
  · subst k2
    go_enter Try.func36, Try.ntmps36
    go_wp2_with fail
    refine (s_give H.out ht a b u).mono ?_
    rintro e w' ⟨rfl, h'⟩
    have H' := Lib.hid h'
    clear h'
    go_wp2_with fail
    go_ret2
    exact ⟨rfl, H'.out⟩
  by_cases k3 : k = 3
  · subst k3
    go_enter Try.func36, Try.ntmps36
    go_wp2_with fail
    refine (s_send H.out a b).mono ?_
    rintro e w' ⟨rfl, h'⟩
    have H' := Lib.hid h'
    clear h'
    go_wp2_with fail
    go_ret2
    exact ⟨rfl, H'.out.mono (Nat.le_succ t)⟩
  by_cases k4 : k = 4
  · subst k4
    go_enter Try.func36, Try.ntmps36
    go_wp2_with fail
    refine (s_deliver H.out ht a b lost again).mono ?_
    rintro e w' ⟨rfl, h'⟩
    have H' := Lib.hid h'
    clear h'
    go_wp2_with fail
    go_ret2
    exact ⟨rfl, H'.out.mono (Nat.le_succ t)⟩
  · have e : eDo S ⟨k, a, b, u, lost, again⟩ = (((eRevoke S a).1, false), (eRevoke S a).2) := by
      unfold eDo
      simp only []
      rw [if_neg k0, if_neg k1, if_neg k2, if_neg k3, if_neg k4]
    rw [e]
    clear e
    go_enter Try.func36, Try.ntmps36
    go_wp2_with fail
    refine (s_revoke H.out a).mono ?_
    rintro e w' ⟨rfl, h'⟩
    have H' := Lib.hid h'
    clear h'
    go_wp2_with fail
    go_ret2
    exact ⟨rfl, H'.out.mono (Nat.le_succ t)⟩
end Go.Proofs.Ytdjaofkbgkifkaa

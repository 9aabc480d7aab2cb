/- The chapter's examples: head returns true. -/
import Derived.Test.YtdgcimjpggjnjaaNtext
set_option linter.unusedVariables false
set_option linter.unusedSimpArgs false
namespace Go.Proofs.Ytdgcimjpggjnjaa
open Go.RowKit

def sa : ByteArray := ⟨#[97]⟩
def sb : ByteArray := ⟨#[98]⟩
def sc : ByteArray := ⟨#[99]⟩
def sd : ByteArray := ⟨#[100]⟩
/-- The states of the examples. -/
def H0 : NS := NS.new 3
def H1 : NS := (nSend H0 0 1 sa).2
def H2 : NS := (nSend H1 0 1 sb).2
def H3 : NS := (nDeliver H2 0 1 false true).2
def H4 : NS := (nDeliver H3 0 1 true false).2
def H5 : NS := (nDeliver H4 0 1 false false).2
def H6 : NS := (nTurn H5 1 0 true).2
def H7 : NS := (nSend H6 0 1 sc).2
def H8 : NS := (nSend H7 0 2 sd).2
theorem h1 : (nSend H0 0 1 sa).1 = 0 := by decide +kernel
theorem h2 : (nSend H1 0 1 sb).1 = 0 := by decide +kernel
theorem h3 : (nDeliver H2 0 1 false true).1 = (sa, true) := by decide +kernel
theorem h4 : (nDeliver H3 0 1 true false).1 = (⟨#[]⟩, false) := by decide +kernel
theorem h5 : (nDeliver H4 0 1 false false).1 = (sb, true) := by decide +kernel
theorem h6 : (nTurn H5 1 0 true).1 = 0 := by decide +kernel
theorem h7 : (nSend H6 0 1 sc).1 = 29 := by decide +kernel
theorem h8 : (nSend H7 0 2 sd).1 = 0 := by decide +kernel
theorem h9 : nWait H8 0 2 = [sd] := by decide +kernel

theorem QB1 : QB H0 := QB.new 3
theorem QB2 : QB H1 := QB.send QB1 0 1 sa
theorem QB3 : QB H2 := QB.send QB2 0 1 sb
theorem QB4 : QB H3 := QB.deliver QB3 0 1 false true
theorem QB5 : QB H4 := QB.deliver QB4 0 1 true false
theorem QB6 : QB H5 := QB.deliver QB5 0 1 false false
theorem QB7 : QB H6 := QB.turn QB6 1 0 true
theorem QB8 : QB H7 := QB.send QB7 0 1 sc
theorem QB9 : QB H8 := QB.send QB8 0 2 sd
theorem own_step {B : Nat} {w w' : World} {g : Nat} {S : NS} (hB : B ≤ w.heap.size) (h : NetS w' (Ext (Own B w) w w') g S) (hf : Fr (Own B w) w w') : NetS w' (Own B w') g S := h.mono (Own.ext hB hf.size)
theorem own_fr {B : Nat} {w0 w w' : World} (hB : B = w0.heap.size) (h0 : Fr None' w0 w) (hf : Fr (Own B w) w w') : Fr None' w0 w' :=
  h0.trans hf (fun i hi hk => by have := hk.1; omega)

theorem head_any (w : World) : Calls Try.prog 9 #[] w fun e w' => e = .returned (.bool true) ∧ Fr None' w w' := by
  have ea : sa.toList = [97] := by decide +kernel
  have eb : sb.toList = [98] := by decide +kernel
  go_enter Try.func9, Try.ntmps9
  go_wp2_with fail
  refine (s_new 3 w (by decide) (by decide)).mono ?_
  rintro e w1 ⟨g, rfl, hn1, hf1⟩
  have hb1 : w.heap.size ≤ w1.heap.size := hf1.size
  have Hn1 : Hid (NetS w1 (Own w.heap.size w1) g H0) := Lib.hid (hn1.mono (fun k hk => by rcases hk with hk | hk; exact hk.elim; exact hk))
  have Hf1 := Lib.hid hf1
  clear hn1 hf1
  go_wp2_with fail
  refine (s_send Hn1.out 0 1 sa (by decide)).mono ?_
  rw [h1]
  rintro e w2 ⟨rfl, hn2, hf2⟩
  have hb2 : w.heap.size ≤ w2.heap.size := Nat.le_trans hb1 hf2.size
  have Hn2 : Hid (NetS w2 (Own w.heap.size w2) g H1) := Lib.hid (own_step hb1 hn2 hf2)
  have Hf2 := Lib.hid (own_fr rfl Hf1.out hf2)
  clear hn2 hf2 Hf1 Hn1
  go_wp2_with fail
  refine (s_send Hn2.out 0 1 sb (by decide)).mono ?_
  rw [h2]
  rintro e w3 ⟨rfl, hn3, hf3⟩
  have hb3 : w.heap.size ≤ w3.heap.size := Nat.le_trans hb2 hf3.size
  have Hn3 : Hid (NetS w3 (Own w.heap.size w3) g H2) := Lib.hid (own_step hb2 hn3 hf3)
  have Hf3 := Lib.hid (own_fr rfl Hf2.out hf3)
  clear hn3 hf3 Hf2 Hn2
  go_wp2_with fail
  refine (s_deliver Hn3.out Own.top QB3 0 1 false true).mono ?_
  rw [h3]
  rintro e w4 ⟨rfl, hn4, hf4⟩
  have hb4 : w.heap.size ≤ w4.heap.size := Nat.le_trans hb3 hf4.size
  have Hn4 : Hid (NetS w4 (Own w.heap.size w4) g H3) := Lib.hid (own_step hb3 hn4 hf4)
  have Hf4 := Lib.hid (own_fr rfl Hf3.out hf4)
  clear hn4 hf4 Hf3 Hn3
  go_wp2_with fail
  refine (s_deliver Hn4.out Own.top QB4 0 1 true false).mono ?_
  rw [h4]
  rintro e w5 ⟨rfl, hn5, hf5⟩
  have hb5 : w.heap.size ≤ w5.heap.size := Nat.le_trans hb4 hf5.size
  have Hn5 : Hid (NetS w5 (Own w.heap.size w5) g H4) := Lib.hid (own_step hb4 hn5 hf5)
  have Hf5 := Lib.hid (own_fr rfl Hf4.out hf5)
  clear hn5 hf5 Hf4 Hn4
  go_wp2_with fail
  refine (s_deliver Hn5.out Own.top QB5 0 1 false false).mono ?_
  rw [h5]
  rintro e w6 ⟨rfl, hn6, hf6⟩
  have hb6 : w.heap.size ≤ w6.heap.size := Nat.le_trans hb5 hf6.size
  have Hn6 : Hid (NetS w6 (Own w.heap.size w6) g H5) := Lib.hid (own_step hb5 hn6 hf6)
  have Hf6 := Lib.hid (own_fr rfl Hf5.out hf6)
  clear hn6 hf6 Hf5 Hn5
  go_wp2_with fail
  refine (s_cut Hn6.out Own.top 1 0).mono ?_
  rw [h6]
  rintro e w7 ⟨rfl, hn7, hf7⟩
  have hb7 : w.heap.size ≤ w7.heap.size := Nat.le_trans hb6 hf7.size
  have Hn7 : Hid (NetS w7 (Own w.heap.size w7) g H6) := Lib.hid (own_step hb6 hn7 hf7)
  have Hf7 := Lib.hid (own_fr rfl Hf6.out hf7)
  clear hn7 hf7 Hf6 Hn6
  go_wp2_with fail
  refine (s_send Hn7.out 0 1 sc (by decide)).mono ?_
  rw [h7]
  rintro e w8 ⟨rfl, hn8, hf8⟩
  have hb8 : w.heap.size ≤ w8.heap.size := Nat.le_trans hb7 hf8.size
  have Hn8 : Hid (NetS w8 (Own w.heap.size w8) g H7) := Lib.hid (own_step hb7 hn8 hf8)
  have Hf8 := Lib.hid (own_fr rfl Hf7.out hf8)
  clear hn8 hf8 Hf7 Hn7
  go_wp2_with fail
  refine (s_send Hn8.out 0 2 sd (by decide)).mono ?_
  rw [h8]
  rintro e w9 ⟨rfl, hn9, hf9⟩
  have hb9 : w.heap.size ≤ w9.heap.size := Nat.le_trans hb8 hf9.size
  have Hn9 : Hid (NetS w9 (Own w.heap.size w9) g H8) := Lib.hid (own_step hb8 hn9 hf9)
  have Hf9 := Lib.hid (own_fr rfl Hf8.out hf9)
  clear hn9 hf9 Hf8 Hn8
  go_wp2_with fail
  refine (s_wait Hn9.out QB9 0 2).mono ?_
  rw [h9]
  rintro e w10 ⟨v, rfl, hr, hk, hf10⟩
  have Hr := Lib.hid hr
  have Hf10 := Lib.hid hf10
  clear hr hk hf10
  go_wp2_with fail
  have hrd : RdS w10 v [sd] := Hr.out.rdS (by decide)
  have hrd' : RdS (w10.alloc (.cells #[.string ⟨#[100]⟩] 9)) (.slice (some ⟨w10.heap.size, 0, none⟩) 1 1) [sd] := by
    refine ⟨_, 1, 1, rfl, rfl, by decide, fun _ => ⟨w10.heap.size, 0, rfl, fun j x hj => ?_⟩⟩
    have : j = 0 := by cases j with | zero => rfl | succ j => simp at hj
    subst this
    simp at hj
    subst hj
    simp [sd]
  refine (texts_any _ _ _ (hrd.fr0 ((Fr.refl _ _).alloc _)) hrd').mono ?_
  rintro e w11 ⟨rfl, hf11⟩
  have Hf11 := Lib.hid hf11
  clear hf11 hrd hrd'
  go_wp2_with fail
  go_ret
  exact ⟨rfl, ((Hf9.out.trans0 Hf10.out).alloc _).trans0 Hf11.out⟩
end Go.Proofs.Ytdgcimjpggjnjaa

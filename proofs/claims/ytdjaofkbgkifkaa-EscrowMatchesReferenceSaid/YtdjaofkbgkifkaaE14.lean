/- Package escrow: Deliver of a message that arrives: what becomes of the escrow. -/
import Derived.Test.YtdjaofkbgkifkaaE13
set_option linter.unusedVariables false
set_option linter.unusedSimpArgs false
namespace Go.Proofs.Ytdjaofkbgkifkaa
open Go.RowKit

theorem ES.putA_putA (S : ES) (i : Int) (x y : Acc) : (S.putA i x).putA i y = S.putA i y := by simp [ES.putA, List.set_set]
theorem ES.putL_putL (S : ES) (a b : Int) (x y : EL) : (S.putL a b x).putL a b y = S.putL a b y := by
  simp only [ES.putL, ES.mk.injEq, true_and]
  funext i j
  by_cases h : i = a ∧ j = b
  · simp [h]
  · simp [h]
theorem ES.putA_putL (S : ES) (i : Int) (x : Acc) (a b : Int) (l : EL) : (S.putA i x).putL a b l = (S.putL a b l).putA i x := rfl
theorem ES.putL_self (S : ES) (a b : Int) : S.putL a b (S.ln a b) = S := by
  obtain ⟨acc, ln⟩ := S
  simp only [ES.putL, ES.mk.injEq, true_and]
  funext i j
  split
  · rename_i h; rw [h.1, h.2]
  · rfl
theorem ES.putA_self {S : ES} {i : Int} (h : isB S.acc.length i = true) : S.putA i (S.ac i) = S := by
  have hg := ES.ac_get h
  obtain ⟨acc, ln⟩ := S
  simp only [ES.putA, ES.mk.injEq, and_true]
  have := (List.getElem?_eq_some_iff.1 hg).2
  rw [← this]
  exact List.set_getElem_self _
/-- i transfers of a message have been looked at. -/
def eRecv (S : ES) (a b : Int) (m : EM) (i : Nat) : ES :=
  (S.putL a b { S.ln a b with rcv := max (S.ln a b).rcv (m.f + i) }).putA b ⟨(S.ac b).u + (((S.ln a b).all.take (m.f + i)).drop (S.ln a b).rcv).sum, (S.ac b).s, (S.ac b).r⟩
theorem eRecv_len (S : ES) (a b : Int) (m : EM) (i : Nat) : (eRecv S a b m i).acc.length = S.acc.length := by simp [eRecv]
theorem eRecv_ln (S : ES) (a b : Int) (m : EM) (i : Nat) : (eRecv S a b m i).ln a b = { S.ln a b with rcv := max (S.ln a b).rcv (m.f + i) } := by simp only [eRecv, ES.putA_ln, ES.putL_same]
theorem eRecv_ac {S : ES} {a b : Int} (h : isB S.acc.length b = true) (m : EM) (i : Nat) : (eRecv S a b m i).ac b = ⟨(S.ac b).u + (((S.ln a b).all.take (m.f + i)).drop (S.ln a b).rcv).sum, (S.ac b).s, (S.ac b).r⟩ :=
  ES.putA_same (S := S.putL a b { S.ln a b with rcv := max (S.ln a b).rcv (m.f + i) }) h _
theorem eRecv_zero {S : ES} {a b : Int} (h : isB S.acc.length b = true) (m : EM) (hf : m.f ≤ (S.ln a b).rcv) : eRecv S a b m 0 = S := by
  have e1 : ((S.ln a b).all.take (m.f + 0)).drop (S.ln a b).rcv = [] := List.drop_eq_nil_of_le (by rw [List.length_take]; omega)
  have e2 : max (S.ln a b).rcv (m.f + 0) = (S.ln a b).rcv := by omega
  unfold eRecv
  rw [e1, e2]
  simp only [List.sum_nil, Int.add_zero]
  have e3 : S.putL a b { S.ln a b with rcv := (S.ln a b).rcv } = S := ES.putL_self S a b
  rw [e3]
  exact ES.putA_self h
theorem eRecv_skip {S : ES} {a b : Int} (m : EM) (i : Nat) (h : m.f + i + 1 ≤ (S.ln a b).rcv) : eRecv S a b m (i + 1) = eRecv S a b m i := by
  have e1 : ((S.ln a b).all.take (m.f + (i + 1))).drop (S.ln a b).rcv = [] := List.drop_eq_nil_of_le (by rw [List.length_take]; omega)
  have e2 : ((S.ln a b).all.take (m.f + i)).drop (S.ln a b).rcv = [] := List.drop_eq_nil_of_le (by rw [List.length_take]; omega)
  have e3 : max (S.ln a b).rcv (m.f + (i + 1)) = max (S.ln a b).rcv (m.f + i) := by omega
  unfold eRecv
  rw [e1, e2, e3]
theorem take_succ_drop_sum (l : List Int) (k r : Nat) (x : Int) (hx : l[k]? = some x) (hr : r ≤ k) : ((l.take (k + 1)).drop r).sum = ((l.take k).drop r).sum + x := by
  have hk : k < l.length := (List.getElem?_eq_some_iff.1 hx).1
  rw [List.take_add_one, hx, Option.toList_some, List.drop_append_of_le_length (by rw [List.length_take]; omega), List.sum_append]
  simp
theorem eRecv_step {S : ES} {a b : Int} (m : EM) (i : Nat) (h : (S.ln a b).rcv < m.f + i + 1) (x : Int) (hx : (S.ln a b).all[m.f + i]? = some x) (hb : isB S.acc.length b = true) :
    eRecv S a b m (i + 1) = ((eRecv S a b m i).putL a b { (eRecv S a b m i).ln a b with rcv := m.f + i + 1 }).putA b ⟨((eRecv S a b m i).ac b).u + x, ((eRecv S a b m i).ac b).s, ((eRecv S a b m i).ac b).r⟩ := by
  rw [eRecv_ac hb, eRecv_ln]
  have e3 : max (S.ln a b).rcv (m.f + (i + 1)) = m.f + i + 1 := by omega
  have e1 := take_succ_drop_sum (S.ln a b).all (m.f + i) (S.ln a b).rcv x hx (by omega)
  unfold eRecv
  rw [ES.putA_putL, ES.putA_putA, ES.putL_putL, e3]
  simp only []
  rw [show m.f + (i + 1) = m.f + i + 1 by omega, e1, Int.add_assoc]
/-- All have been looked at; then what was confirmed, and the revocation. -/
theorem eTake_eq {S : ES} {a b : Int} (m : EM) (hfl : m.f ≤ m.l) (hb : isB S.acc.length b = true) (hne : a ≠ b) (c : Nat) (hc : c = max (S.ln b a).conf m.c) :
    (((eRecv S a b m (m.l - m.f)).putL b a { S.ln b a with conf := c }).putA b ⟨((eRecv S a b m (m.l - m.f)).ac b).u, ((eRecv S a b m (m.l - m.f)).ac b).s, ((eRecv S a b m (m.l - m.f)).ac b).r || m.r⟩) = eTake S a b m := by
  rw [eRecv_ac hb, hc]
  have e : m.f + (m.l - m.f) = m.l := by omega
  unfold eRecv eTake eGain
  rw [e, ES.putA_putL, ES.putA_putA]
  rfl
/-- The units of an account and what a line received. -/
theorem EscAt.recv {w : World} {ρ : Nat → Role} {g : Nat} {S : ES} {mb : Nat} {L : List WE} {lk : Nat} {lb : Int → Int → Nat} {vT vM : Int → Int → Value} {mz : Int → Int → List (Value × EM)} {ga off n cap : Nat}
    (h : EscAt w ρ g S (.slice (some ⟨ga, off, none⟩) n cap) mb L lk lb vT vM mz) {a : Int} {r : Nat} (hp : pairB S.acc.length a r = true) (u : Int) (k : Nat) (hb : rowBlk (.slice (some ⟨ga, off, none⟩) n cap) = some ga) :
    EscAt ((w.setCell ⟨ga, off + r * 3, none⟩ (.int .i64 u)).setCell ⟨lb a r, 2, none⟩ (.int .i64 (k : Int))) ρ g ((S.putL a r { S.ln a r with rcv := k }).putA r ⟨u, (S.ac r).s, (S.ac r).r⟩) (.slice (some ⟨ga, off, none⟩) n cap) mb L lk lb vT vM mz := by
  have hac := ES.ac_get (pairB_right hp)
  rw [Int.toNat_natCast] at hac
  have h1 := h.put1 (x' := ⟨u, (S.ac r).s, (S.ac r).r⟩) hac 0 (by decide) (.int .i64 u) rfl hb
  have hp1 : pairB (S.putA r ⟨u, (S.ac r).s, (S.ac r).r⟩).acc.length a r = true := by rw [ES.putA_len]; exact hp
  obtain ⟨w1, hw1⟩ : ∃ w1, w1 = w.setCell ⟨ga, off + r * 3, none⟩ (.int .i64 u) := ⟨_, rfl⟩
  rw [show off + r * 3 + 0 = off + r * 3 from rfl, ← hw1] at h1
  rw [← hw1]
  have hf : Fr (fun k => k = lb a r) w1 (w1.setCell ⟨lb a r, 2, none⟩ (.int .i64 (k : Int))) := (Fr.refl (fun k => k = lb a r) w1).setCell (p := ⟨lb a r, 2, none⟩) (.inl rfl) _
  have hL := h1.rl a r hp1
  have h2 := h1.putLine (w' := w1.setCell ⟨lb a r, 2, none⟩ (.int .i64 (k : Int))) (l := { S.ln a r with rcv := k }) (t' := vT a r) (M' := vM a r) (z' := mz a r) hp1 (heap_setCell_same w1 (lb a r) 2 _ 109 _ (h1.line a r hp1)) ?_ ?_ (h1.mq a r hp1) ?_ hf.size ?_ (h1.rt a r hp1) (h1.rs a r hp1)
  · rw [upd2_self, upd2_self, upd2_self] at h2
    exact h2
  · exact (h1.tr a r hp1).fr hf (fun k hk e => by have h3 := h1.rt a r hp1 k hk; rw [e, hL] at h3; cases h3)
  · exact (h1.ms a r hp1).fr hf (fun k hk e => by have h3 := h1.rs a r hp1 k hk; rw [e, hL] at h3; cases h3)
  · exact fun q hq => (h1.im a r hp1 q hq).keep hf.size (fun k hk hi => hf.block k hk (fun e => by rw [e, hL] at hi; cases hi))
  · exact fun j hj x1 _ _ _ => hf.block j hj (fun e => x1 (by rw [e]; exact hL))
end Go.Proofs.Ytdjaofkbgkifkaa

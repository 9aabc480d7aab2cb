/- The reference of chapter 36: what Deliver does unit by unit, in plain Lean. -/
import Derived.Test.YtdjaofkbgkifkaaE43
set_option linter.unusedVariables false
set_option linter.unusedSimpArgs false
namespace Go.Proofs.Ytdjaofkbgkifkaa
open Go.RowKit

/-- All units up to number n have arrived. -/
def eUpTo (T : ES) (a b : Int) (n : Nat) : ES :=
  (T.putL a b { T.ln a b with rcv := max (T.ln a b).rcv n }).putA b ⟨(T.ac b).u + (((T.ln a b).all.take n).drop (T.ln a b).rcv).sum, (T.ac b).s, (T.ac b).r⟩
theorem up_len (T : ES) (a b : Int) (n : Nat) : (eUpTo T a b n).acc.length = T.acc.length := by simp [eUpTo]
theorem up_ln (T : ES) (a b : Int) (n : Nat) : (eUpTo T a b n).ln a b = { T.ln a b with rcv := max (T.ln a b).rcv n } := by
  show (T.putL a b _).ln a b = _
  rw [ES.putL_same]
theorem up_back (T : ES) {a b : Int} (h : a ≠ b) (n : Nat) : (eUpTo T a b n).ln b a = T.ln b a := by
  show (T.putL a b _).ln b a = _
  rw [ES.putL_other _ _ _ _ _ _ (.inl (Ne.symm h))]
theorem up_ac {T : ES} {a b : Int} (h : isB T.acc.length b = true) (n : Nat) : (eUpTo T a b n).ac b = ⟨(T.ac b).u + (((T.ln a b).all.take n).drop (T.ln a b).rcv).sum, (T.ac b).s, (T.ac b).r⟩ := ES.putA_same (S := T.putL a b _) h _
theorem ES.ext' {S T : ES} (h1 : S.acc = T.acc) (h2 : S.ln = T.ln) : S = T := by cases S; cases T; simp only at h1 h2; rw [h1, h2]
theorem putL_self (S : ES) (a b : Int) : S.putL a b (S.ln a b) = S := by
  refine ES.ext' rfl ?_
  funext x y
  simp only [ES.putL]
  split
  · rename_i h; rw [h.1, h.2]
  · rfl
theorem putA_self {S : ES} {i : Int} (h : isB S.acc.length i = true) : S.putA i (S.ac i) = S := by
  refine ES.ext' ?_ rfl
  simp only [ES.putA]
  exact List.ext_getElem? (fun k => by
    rw [List.getElem?_set]
    split
    · rename_i e
      subst e
      rw [ES.ac_get h]
      split
      · rfl
      · rename_i h2
        have := (List.getElem?_eq_some_iff.1 (ES.ac_get h)).1
        omega
    · rfl)
theorem putL_twice (S : ES) (a b : Int) (l l' : EL) : (S.putL a b l).putL a b l' = S.putL a b l' := by
  refine ES.ext' rfl ?_
  funext x y
  simp only [ES.putL]
  split <;> rfl
theorem putA_twice (S : ES) (i : Int) (x y : Acc) : (S.putA i x).putA i y = S.putA i y := by
  refine ES.ext' ?_ rfl
  simp only [ES.putA, List.set_set]
theorem putL_eq {S : ES} {a b : Int} {l : EL} (h : l = S.ln a b) : S.putL a b l = S := by rw [h, putL_self]
theorem up_zero {T : ES} {a b : Int} (hb : isB T.acc.length b = true) {n : Nat} (h : n ≤ (T.ln a b).rcv) : eUpTo T a b n = T := by
  unfold eUpTo
  have e : ((T.ln a b).all.take n).drop (T.ln a b).rcv = [] := by
    rw [List.drop_eq_nil_iff, List.length_take]; omega
  rw [e, List.sum_nil, Int.add_zero, Nat.max_eq_left h]
  show (T.putL a b (T.ln a b)).putA b (T.ac b) = T
  rw [putL_self]
  exact putA_self hb
theorem up_skip {T : ES} {a b : Int} (hb : isB T.acc.length b = true) {n : Nat} (h : n < (T.ln a b).rcv) : eUpTo T a b (n + 1) = eUpTo T a b n := by
  rw [up_zero hb (show n + 1 ≤ _ from h), up_zero hb (show n ≤ _ by omega)]
theorem up_step {T : ES} {a b : Int} (hb : isB T.acc.length b = true) {n : Nat} {x : Int} (h : (T.ln a b).rcv ≤ n) (hx : (T.ln a b).all[n]? = some x) :
    ((eUpTo T a b n).putA b ⟨((eUpTo T a b n).ac b).u + x, ((eUpTo T a b n).ac b).s, ((eUpTo T a b n).ac b).r⟩).putL a b { (eUpTo T a b n).ln a b with rcv := n + 1 } = eUpTo T a b (n + 1) := by
  rw [up_ac hb, up_ln]
  have hl : n < (T.ln a b).all.length := (List.getElem?_eq_some_iff.1 hx).1
  have e : ((T.ln a b).all.take (n + 1)).drop (T.ln a b).rcv = ((T.ln a b).all.take n).drop (T.ln a b).rcv ++ [x] := by
    rw [List.take_add_one, hx]
    show ((T.ln a b).all.take n ++ [x]).drop (T.ln a b).rcv = _
    rw [List.drop_append_of_le_length (by rw [List.length_take]; omega)]
  unfold eUpTo
  rw [e, List.sum_append, List.sum_singleton, Nat.max_eq_right (show (T.ln a b).rcv ≤ n + 1 by omega)]
  show ((T.putL a b _).putL a b _ |>.putA b _).putA b _ = _
  rw [putL_twice, putA_twice, Int.add_assoc]
theorem up_bound {U : Int} {t : Nat} {T : ES} (h : Inv U t T) {a b : Int} (hp : pairB T.acc.length a b = true) (n : Nat) : 0 ≤ ((eUpTo T a b n).ac b).u ∧ ((eUpTo T a b n).ac b).u ≤ U := by
  rw [up_ac (pairB_right hp)]
  show 0 ≤ (T.ac b).u + _ ∧ (T.ac b).u + _ ≤ U
  have h1 := (h.bound (pairB_right hp)).1
  have h2 := (h.bound2 hp).2
  have o := h.sh.ok hp
  have h3 := sum_take_le ((T.ln a b).all.drop (T.ln a b).rcv) (fun x hx => by have := o.pos x (List.mem_of_mem_drop hx); omega) (n - (T.ln a b).rcv)
  rw [← List.drop_take] at h3
  have e : (T.ln a b).fly = ((T.ln a b).all.drop (T.ln a b).rcv).sum := rfl
  rw [e] at h2
  omega
/-- The end of a delivery. -/
theorem up_take {T : ES} {a b : Int} (hb : isB T.acc.length b = true) (hne : a ≠ b) (m : EM) :
    eTake T a b m = ((eUpTo T a b m.l).putL b a { T.ln b a with conf := max (T.ln b a).conf m.c }).putA b ⟨((eUpTo T a b m.l).ac b).u, ((eUpTo T a b m.l).ac b).s, ((eUpTo T a b m.l).ac b).r || m.r⟩ := by
  rw [up_ac hb]
  unfold eTake eUpTo eGain
  show _ = (((T.putL a b _).putL b a _).putA b _).putA b _
  rw [putA_twice]
  rfl
theorem up_tt {T : ES} {a b : Int} (hb : isB T.acc.length b = true) (hne : a ≠ b) {m : EM} (hc : (T.ln b a).conf < m.c) (hr : m.r = true) :
    eTake T a b m = ((eUpTo T a b m.l).putL b a { (eUpTo T a b m.l).ln b a with conf := m.c }).putA b ⟨((eUpTo T a b m.l).ac b).u, ((eUpTo T a b m.l).ac b).s, true⟩ := by
  rw [up_take hb hne, up_back _ hne, Nat.max_eq_right (Nat.le_of_lt hc), hr, Bool.or_true]
theorem up_tf {T : ES} {a b : Int} (hb : isB T.acc.length b = true) (hne : a ≠ b) {m : EM} (hc : (T.ln b a).conf < m.c) (hr : m.r = false) :
    eTake T a b m = (eUpTo T a b m.l).putL b a { (eUpTo T a b m.l).ln b a with conf := m.c } := by
  rw [up_take hb hne, up_back _ hne, Nat.max_eq_right (Nat.le_of_lt hc), hr, Bool.or_false]
  exact putA_self (S := (eUpTo T a b m.l).putL b a _) (by show isB (eUpTo T a b m.l).acc.length b = true; rw [up_len]; exact hb)
theorem up_ft {T : ES} {a b : Int} (hb : isB T.acc.length b = true) (hne : a ≠ b) {m : EM} (hc : ¬ (T.ln b a).conf < m.c) (hr : m.r = true) :
    eTake T a b m = (eUpTo T a b m.l).putA b ⟨((eUpTo T a b m.l).ac b).u, ((eUpTo T a b m.l).ac b).s, true⟩ := by
  rw [up_take hb hne, Nat.max_eq_left (by omega), hr, Bool.or_true, putL_eq (S := eUpTo T a b m.l) (by rw [up_back _ hne])]
theorem up_ff {T : ES} {a b : Int} (hb : isB T.acc.length b = true) (hne : a ≠ b) {m : EM} (hc : ¬ (T.ln b a).conf < m.c) (hr : m.r = false) : eTake T a b m = eUpTo T a b m.l := by
  rw [up_take hb hne, Nat.max_eq_left (by omega), hr, Bool.or_false, putL_eq (S := eUpTo T a b m.l) (by rw [up_back _ hne])]
  exact putA_self (by rw [up_len]; exact hb)
theorem RefAt.unLit {w : World} {ρ : Nat → RR} {g : Nat} {T : ES} {gu ou n cu : Nat} {vS vR vP : Value} {vr : Nat → Value} {vT vM : Nat → Nat → Value} {mz : Nat → Nat → List (Value × EM)}
    (h : RefAt w ρ g T (.slice (some ⟨gu, ou, none⟩) n cu) vS vR vP vr vT vM mz) {b : Nat} (hb : isB T.acc.length (b : Int) = true) : w.cell? ⟨gu, ou + b, none⟩ = some (.int .i64 (T.ac b).u) ∧ (∀ o, w.frozen? ⟨gu, o, none⟩ = false) := by
  have hx := ES.ac_get hb
  rw [Int.toNat_natCast] at hx
  obtain ⟨g', o', c', he, _, u0, uf⟩ := arr_get ucell_len h.un hx rfl
  simp only [Value.slice.injEq, Option.some.injEq, Addr.mk.injEq] at he
  obtain ⟨⟨rfl, rfl, _⟩, _, _⟩ := he
  exact ⟨u0, uf⟩
theorem RefAt.reLit {w : World} {ρ : Nat → RR} {g : Nat} {T : ES} {gu ou n cu : Nat} {vU vS vP : Value} {vr : Nat → Value} {vT vM : Nat → Nat → Value} {mz : Nat → Nat → List (Value × EM)}
    (h : RefAt w ρ g T vU vS (.slice (some ⟨gu, ou, none⟩) n cu) vP vr vT vM mz) {b : Nat} (hb : isB T.acc.length (b : Int) = true) : w.cell? ⟨gu, ou + b, none⟩ = some (.bool (T.ac b).r) ∧ (∀ o, w.frozen? ⟨gu, o, none⟩ = false) := by
  have hx := ES.ac_get hb
  rw [Int.toNat_natCast] at hx
  obtain ⟨g', o', c', he, _, u0, uf⟩ := arr_get rcell_len h.re hx rfl
  simp only [Value.slice.injEq, Option.some.injEq, Addr.mk.injEq] at he
  obtain ⟨⟨rfl, rfl, _⟩, _, _⟩ := he
  exact ⟨u0, uf⟩
theorem RefAt.pairLit {w : World} {ρ : Nat → RR} {g : Nat} {T : ES} {gp op n cp gr orr cr : Nat} {vU vS vR : Value} {vr : Nat → Value} {vT vM : Nat → Nat → Value} {mz : Nat → Nat → List (Value × EM)}
    (h : RefAt w ρ g T vU vS vR (.slice (some ⟨gp, op, none⟩) n cp) vr vT vM mz) {a b : Nat} (hvr : vr a = .slice (some ⟨gr, orr, none⟩) n cr) (ha : a < T.acc.length) (hb : b < T.acc.length) :
    w.cell? ⟨gp, op + a, none⟩ = some (.slice (some ⟨gr, orr, none⟩) n cr) ∧ w.cell? ⟨gr, orr + b * 4 + 1, none⟩ = some (.int .i64 ((T.ln a b).rcv : Int)) ∧ w.cell? ⟨gr, orr + b * 4 + 2, none⟩ = some (.int .i64 ((T.ln a b).conf : Int)) ∧ (∀ o, w.frozen? ⟨gr, o, none⟩ = false) ∧
      rowBlk (.slice (some ⟨gp, op, none⟩) n cp) = some gp ∧ rowBlk (vr a) = some gr := by
  obtain ⟨gp', op', cp', gr', orr', cr', A, cap, AM, capM, he, hb1, p0, hvr', hb2, _, _, _, q1, q2, _, qf⟩ := h.pairAt ha hb
  simp only [Value.slice.injEq, Option.some.injEq, Addr.mk.injEq] at he
  obtain ⟨⟨rfl, rfl, _⟩, hn, _⟩ := he
  rw [hvr] at hvr'
  simp only [Value.slice.injEq, Option.some.injEq, Addr.mk.injEq] at hvr'
  obtain ⟨⟨rfl, rfl, _⟩, _, rfl⟩ := hvr'
  rw [← hn] at p0
  exact ⟨p0, q1, q2, qf, hb1, hb2⟩
end Go.Proofs.Ytdjaofkbgkifkaa

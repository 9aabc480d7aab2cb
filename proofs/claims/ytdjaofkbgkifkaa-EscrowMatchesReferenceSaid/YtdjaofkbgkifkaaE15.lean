/- Package escrow: Deliver of a message that arrives: bounds, what was confirmed, and the end. -/
import Derived.Test.YtdjaofkbgkifkaaE14
set_option linter.unusedVariables false
set_option linter.unusedSimpArgs false
namespace Go.Proofs.Ytdjaofkbgkifkaa
open Go.RowKit

theorem take_drop_sum_le (l : List Int) (h : ∀ x ∈ l, 0 ≤ x) (k r : Nat) : ((l.take k).drop r).sum ≤ (l.drop r).sum := by
  have e : l.drop r = (l.take k).drop r ++ (l.drop (max r k)) := by
    rcases Nat.le_total k r with h1 | h1
    · have : (l.take k).drop r = [] := List.drop_eq_nil_of_le (by rw [List.length_take]; omega)
      rw [this, Nat.max_eq_left h1]; rfl
    · rcases Nat.le_total k l.length with h2 | h2
      · rw [Nat.max_eq_right h1, ← List.drop_append_of_le_length (by rw [List.length_take]; omega), List.take_append_drop]
      · rw [List.take_of_length_le h2, List.drop_eq_nil_of_le (show l.length ≤ max r k by omega), List.append_nil]
  rw [e, List.sum_append]
  have := sum_nonneg (l.drop (max r k)) (fun x hx => h x (List.mem_of_mem_drop hx))
  omega
theorem eRecv_bound {U : Int} {t : Nat} {S : ES} (h : Inv U t S) {a b : Int} (hp : pairB S.acc.length a b = true) (m : EM) (i : Nat) : 0 ≤ ((eRecv S a b m i).ac b).u ∧ ((eRecv S a b m i).ac b).u ≤ U := by
  rw [eRecv_ac (pairB_right hp)]
  have h1 := h.bound2 hp
  have h2 := h.bound (pairB_right hp)
  have hpos := h.sh.pos a b hp
  have h3 := take_drop_sum_le (S.ln a b).all (fun x hx => by have := hpos x hx; omega) (m.f + i) (S.ln a b).rcv
  have h4 := sum_nonneg (((S.ln a b).all.take (m.f + i)).drop (S.ln a b).rcv) (fun x hx => by have := hpos x (List.mem_of_mem_take (List.mem_of_mem_drop hx)); omega)
  simp only [EL.fly] at h1
  simp only []
  omega
/-- What was confirmed: the transfers that are left, in a row of their own. -/
theorem EscAt.conf {w wd w5 : World} {ρ : Nat → Role} {g : Nat} {S : ES} {vA : Value} {mb : Nat} {L : List WE} {lk : Nat} {lb : Int → Int → Nat} {vT vM : Int → Int → Value} {mz : Int → Int → List (Value × EM)} {v5 : Value} {c : Nat}
    (h : EscAt w ρ g S vA mb L lk lb vT vM mz) (hcut : ∀ k, w.heap.size ≤ k → ρ k = .other) {a b : Int} (hp : pairB S.acc.length a b = true) (hf : Fr None' w w5) (hr : Row w5 1 v5 (((S.ln a b).all.drop c).flatMap icell)) (hb : ∀ k, rowBlk v5 = some k → w.heap.size ≤ k ∧ k < w5.heap.size) :
    ∃ ρ1, EscAt (w5.setCell ⟨lb a b, 0, none⟩ v5) ρ1 g (S.putL a b { S.ln a b with conf := c }) vA mb L lk lb (upd2 vT a b v5) vM mz ∧ (∀ k, k < w.heap.size → ρ1 k = ρ k) ∧ (∀ k, w5.heap.size ≤ k → ρ1 k = .other) ∧ Fr (fun k => k = lb a b) w (w5.setCell ⟨lb a b, 0, none⟩ v5) := by
  have hL := h.rl a b hp
  obtain ⟨w6, hw6⟩ : ∃ w6, w6 = w5.setCell ⟨lb a b, 0, none⟩ v5 := ⟨_, rfl⟩
  have s6 : w6.heap.size = w5.heap.size := by rw [hw6, setCell_size]
  have f6 : Fr (fun k => k = lb a b) w w6 := by rw [hw6]; exact (Fr.mono (G := fun k => k = lb a b) hf (fun _ _ h => h.elim)).setCell (p := ⟨lb a b, 0, none⟩) (.inl rfl) _
  have hll : lb a b < w.heap.size := (Array.getElem?_eq_some_iff.1 (h.line a b hp)).1
  have hl6 : w6.heap[lb a b]? = some (.cells #[v5, .int .i64 ((S.ln a b).all.length : Int), .int .i64 ((S.ln a b).rcv : Int), vM a b] 109) := by
    rw [hw6]; exact heap_setCell_same w5 (lb a b) 0 _ 109 _ (hf.heap (h.line a b hp) (fun h => h))
  rw [← hw6]
  obtain ⟨ρ', hρ⟩ : ∃ ρ' : Nat → Role, ρ' = fun k => if k < w.heap.size then ρ k else if k < w5.heap.size then .tr a b else .other := ⟨_, rfl⟩
  have r1 : ∀ k, k < w.heap.size → ρ' k = ρ k := fun k hk => by rw [hρ]; simp only [if_pos hk]
  have r2 : ∀ k, w.heap.size ≤ k → k < w5.heap.size → ρ' k = .tr a b := fun k h1 h2 => by rw [hρ]; simp only [if_neg (show ¬ k < w.heap.size by omega), if_pos h2]
  have r4 : ∀ k, w5.heap.size ≤ k → ρ' k = .other := fun k h1 => by have := hf.size; rw [hρ]; simp only [if_neg (show ¬ k < w.heap.size by omega), if_neg (show ¬ k < w5.heap.size by omega)]
  have E1 := h.role (ρ' := ρ') (fun k hk _ => r1 k hk)
  have E2 := E1.putLine (w' := w6) (l := { S.ln a b with conf := c }) (t' := v5) (M' := vM a b) (z' := mz a b) hp hl6 ?_ ?_ (E1.mq a b hp) ?_ f6.size ?_ (fun k hk => r2 k (hb k hk).1 (hb k hk).2) (E1.rs a b hp)
  · rw [upd2_self, upd2_self] at E2
    exact ⟨ρ', E2, r1, r4, f6⟩
  · refine hr.kept (fun k hk => ?_)
    rw [hw6]
    have := (hb k hk).1
    exact setCell_other (by simp only []; omega)
  · exact (E1.ms a b hp).fr f6 (fun k hk e => by have h3 := E1.rs a b hp k hk; rw [e, E1.rl a b hp] at h3; cases h3)
  · exact fun q hq => (E1.im a b hp q hq).keep f6.size (fun k hk hi => f6.block k hk (fun e => by rw [e, E1.rl a b hp] at hi; cases hi))
  · exact fun j hj x1 _ _ _ => f6.block j hj (fun e => x1 (by rw [e]; exact E1.rl a b hp))
/-- The end: whether the account knows of a revocation. -/
theorem deliver_end {w wE : World} {F : Nat → Prop} {ρ : Nat → Role} {g : Nat} {S1 : ES} {mb : Nat} {L : List WE} {lk : Nat} {lb : Int → Int → Nat} {vT vM : Int → Int → Value} {mz : Int → Int → List (Value × EM)} {ga off n cap : Nat} {a : Int} {r : Nat} {m : EM} {c : Nat}
    (h : EscAt wE ρ g ((eRecv S1 a r m (m.l - m.f)).putL r a { S1.ln r a with conf := c }) (.slice (some ⟨ga, off, none⟩) n cap) mb L lk lb vT vM mz) (hbk : rowBlk (.slice (some ⟨ga, off, none⟩) n cap) = some ga)
    (hfoot : ∀ k, ρ k ≠ .other → Ext F w wE k) (hfr : Fr F w wE) (hb : isB S1.acc.length r = true) (hne : a ≠ r) (hfl : m.f ≤ m.l) (hc : c = max (S1.ln r a).conf m.c) (rv : Bool) (hrv : rv = ((S1.ac r).r || m.r)) :
    EPost w F g (.bool true) (eTake S1 a r m) (.returned (.bool true)) (wE.setCell ⟨ga, off + r * 3 + 2, none⟩ (.bool rv)) := by
  obtain ⟨S2, hS2⟩ : ∃ S2, S2 = (eRecv S1 a r m (m.l - m.f)).putL r a { S1.ln r a with conf := c } := ⟨_, rfl⟩
  rw [← hS2] at h
  have hb2 : isB S2.acc.length r = true := by rw [hS2]; exact (eRecv_len S1 a r m _).symm ▸ hb
  have hx := ES.ac_get hb2
  rw [Int.toNat_natCast] at hx
  have hac : S2.ac r = (eRecv S1 a r m (m.l - m.f)).ac r := by rw [hS2]; rfl
  have h1 := h.put1 (x' := ⟨(S2.ac r).u, (S2.ac r).s, rv⟩) hx 2 (by decide) (.bool rv) rfl hbk
  have e := eTake_eq (S := S1) m hfl hb hne c hc
  have e2 : S2.putA r ⟨(S2.ac r).u, (S2.ac r).s, rv⟩ = eTake S1 a r m := by
    rw [← e, hac, hS2, hrv, eRecv_ac hb]
  rw [e2] at h1
  have hga := hfoot ga (by rw [h.ra ga hbk]; simp)
  refine ⟨rfl, ⟨ρ, _, _, _, _, _, _, _, _, h1, fun k hk => ?_⟩, hfr.setCell (by
    rcases hga with h2 | h2
    · exact .inl h2
    · exact .inr h2.1) _⟩
  rcases hfoot k hk with h2 | h2
  · exact .inl h2
  · exact .inr ⟨h2.1, by rw [setCell_size]; exact h2.2⟩
end Go.Proofs.Ytdjaofkbgkifkaa

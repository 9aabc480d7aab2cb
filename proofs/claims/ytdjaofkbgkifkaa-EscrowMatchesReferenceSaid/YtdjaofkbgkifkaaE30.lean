/- Package escrow: two replicas and what the others do. -/
import Derived.Test.YtdjaofkbgkifkaaE25
set_option linter.unusedVariables false
set_option linter.unusedSimpArgs false
namespace Go.Proofs.Ytdjaofkbgkifkaa

def T01 (i : Int) : Prop := i = 0 ∨ i = 1
structure Agree (X Y : ES) : Prop where
  len : X.acc.length = Y.acc.length
  ac : ∀ i, T01 i → X.ac i = Y.ac i
  ln : ∀ x y, T01 x → T01 y → X.ln x y = Y.ln x y
theorem Agree.refl (X : ES) : Agree X X := ⟨rfl, fun _ _ => rfl, fun _ _ _ _ => rfl⟩
theorem Agree.trans {X Y Z : ES} (h : Agree X Y) (k : Agree Y Z) : Agree X Z := ⟨h.len.trans k.len, fun i hi => (h.ac i hi).trans (k.ac i hi), fun x y hx hy => (h.ln x y hx hy).trans (k.ln x y hx hy)⟩
theorem T01.nonneg {i : Int} (h : T01 i) : 0 ≤ i := by rcases h with h | h <;> omega
theorem Agree.putA {X Y : ES} (h : Agree X Y) {i : Int} (hb : isB X.acc.length i = true) (z : Acc) : Agree (X.putA i z) (Y.putA i z) := by
  have hb2 : isB Y.acc.length i = true := by rw [← h.len]; exact hb
  have hi0 : 0 ≤ i := by simp only [isB, decide_eq_true_eq] at hb; exact hb.1
  refine ⟨by simp only [ES.putA_len]; exact h.len, fun j hj => ?_, h.ln⟩
  by_cases e : j = i
  · rw [e, ES.putA_same hb, ES.putA_same hb2]
  · rw [ES.putA_other hi0 hj.nonneg e, ES.putA_other hi0 hj.nonneg e]; exact h.ac j hj
theorem Agree.putL {X Y : ES} (h : Agree X Y) (a b : Int) (l : EL) : Agree (X.putL a b l) (Y.putL a b l) := by
  refine ⟨h.len, h.ac, fun x y hx hy => ?_⟩
  by_cases e : x = a ∧ y = b
  · rw [e.1, e.2, ES.putL_same, ES.putL_same]
  · rw [ES.putL_other _ _ _ _ _ _ (ne_or e), ES.putL_other _ _ _ _ _ _ (ne_or e)]; exact h.ln x y hx hy
theorem Agree.spend {X Y : ES} (h : Agree X Y) {i : Int} (hi : T01 i) (k : Int) : (eSpend X i k).1 = (eSpend Y i k).1 ∧ Agree (eSpend X i k).2 (eSpend Y i k).2 := by
  unfold eSpend
  rw [h.len, h.ac i hi]
  by_cases c1 : isB Y.acc.length i = false ∨ k < 1
  · rw [if_pos c1, if_pos c1]; exact ⟨rfl, h⟩
  · rw [if_neg c1, if_neg c1]
    by_cases c2 : (Y.ac i).r = true
    · rw [if_pos c2, if_pos c2]; exact ⟨rfl, h⟩
    · rw [if_neg c2, if_neg c2]
      by_cases c3 : (Y.ac i).u < k
      · rw [if_pos c3, if_pos c3]; exact ⟨rfl, h⟩
      · rw [if_neg c3, if_neg c3]
        exact ⟨rfl, h.putA (by rw [h.len]; cases e : isB Y.acc.length i with | true => rfl | false => exact absurd (.inl e) c1) _⟩
theorem Agree.ret {X Y : ES} (h : Agree X Y) {i : Int} (hi : T01 i) (k : Int) : (eReturn X i k).1 = (eReturn Y i k).1 ∧ Agree (eReturn X i k).2 (eReturn Y i k).2 := by
  unfold eReturn
  rw [h.len, h.ac i hi]
  by_cases c1 : isB Y.acc.length i = false ∨ k < 1
  · rw [if_pos c1, if_pos c1]; exact ⟨rfl, h⟩
  · rw [if_neg c1, if_neg c1]
    by_cases c3 : (Y.ac i).s < k
    · rw [if_pos c3, if_pos c3]; exact ⟨rfl, h⟩
    · rw [if_neg c3, if_neg c3]
      exact ⟨rfl, h.putA (by rw [h.len]; cases e : isB Y.acc.length i with | true => rfl | false => exact absurd (.inl e) c1) _⟩
theorem Agree.revoke {X Y : ES} (h : Agree X Y) {i : Int} (hi : T01 i) : (eRevoke X i).1 = (eRevoke Y i).1 ∧ Agree (eRevoke X i).2 (eRevoke Y i).2 := by
  unfold eRevoke
  rw [h.len, h.ac i hi]
  by_cases c1 : isB Y.acc.length i = false
  · rw [if_pos c1, if_pos c1]; exact ⟨rfl, h⟩
  · rw [if_neg c1, if_neg c1]
    exact ⟨rfl, h.putA (by rw [h.len]; simpa using c1) _⟩
theorem Agree.give {X Y : ES} (h : Agree X Y) {a b : Int} (ha : T01 a) (hb : T01 b) (k : Int) : (eGive X a b k).1 = (eGive Y a b k).1 ∧ Agree (eGive X a b k).2 (eGive Y a b k).2 := by
  unfold eGive
  rw [h.len, h.ac a ha, h.ln a b ha hb]
  by_cases c1 : pairB Y.acc.length a b = false ∨ k < 1
  · rw [if_pos c1, if_pos c1]; exact ⟨rfl, h⟩
  · rw [if_neg c1, if_neg c1]
    by_cases c2 : (Y.ac a).u < k
    · rw [if_pos c2, if_pos c2]; exact ⟨rfl, h⟩
    · rw [if_neg c2, if_neg c2]
      by_cases c3 : (Y.ln a b).conf + 100 ≤ (Y.ln a b).all.length
      · rw [if_pos c3, if_pos c3]; exact ⟨rfl, h⟩
      · rw [if_neg c3, if_neg c3]
        have hp : pairB Y.acc.length a b = true := by cases e : pairB Y.acc.length a b with | true => rfl | false => exact absurd (.inl e) c1
        exact ⟨rfl, (h.putA (by rw [h.len]; exact pairB_left hp) _).putL _ _ _⟩
theorem Agree.send {X Y : ES} (h : Agree X Y) {a b : Int} (ha : T01 a) (hb : T01 b) : (eSend X a b).1 = (eSend Y a b).1 ∧ Agree (eSend X a b).2 (eSend Y a b).2 := by
  have hm : eMsg X a b = eMsg Y a b := by unfold eMsg; rw [h.ac a ha, h.ln a b ha hb, h.ln b a hb ha]
  unfold eSend
  rw [h.len, h.ln a b ha hb, hm]
  by_cases c1 : pairB Y.acc.length a b = false
  · rw [if_pos c1, if_pos c1]; exact ⟨rfl, h⟩
  · rw [if_neg c1, if_neg c1]
    by_cases c2 : 100 ≤ (Y.ln a b).ms.length
    · rw [if_pos c2, if_pos c2]; exact ⟨rfl, h⟩
    · rw [if_neg c2, if_neg c2]; exact ⟨rfl, h.putL _ _ _⟩
theorem Agree.take {X Y : ES} (h : Agree X Y) {a b : Int} (ha : T01 a) (hb : T01 b) (hp : pairB Y.acc.length a b = true) (m : EM) : Agree (eTake X a b m) (eTake Y a b m) := by
  unfold eTake
  rw [h.ac b hb, h.ln a b ha hb, h.ln b a hb ha]
  exact ((h.putL _ _ _).putA (by rw [ES.putL_acc, h.len]; exact pairB_right hp) _).putL _ _ _
theorem Agree.deliver {X Y : ES} (h : Agree X Y) {a b : Int} (ha : T01 a) (hb : T01 b) (lost again : Bool) : (eDeliver X a b lost again).1 = (eDeliver Y a b lost again).1 ∧ Agree (eDeliver X a b lost again).2 (eDeliver Y a b lost again).2 := by
  unfold eDeliver
  rw [h.len, h.ln a b ha hb]
  by_cases c1 : pairB Y.acc.length a b = false
  · rw [if_pos c1, if_pos c1]; exact ⟨rfl, h⟩
  · rw [if_neg c1, if_neg c1]
    cases hm : (Y.ln a b).ms with
    | nil => exact ⟨rfl, h⟩
    | cons m r =>
      refine ⟨rfl, ?_⟩
      have hn : Agree (eNext X a b (if again then r ++ [m] else r)) (eNext Y a b (if again then r ++ [m] else r)) := by
        unfold eNext
        rw [h.ln a b ha hb]
        exact h.putL _ _ _
      cases lost with
      | true => exact hn
      | false => exact hn.take ha hb (by rw [eNext_len]; simpa using c1) m
/-- The same operation of two of them. -/
theorem Agree.op {X Y : ES} (h : Agree X Y) (x : EA) (ha : T01 x.a) (hb : T01 x.b) : (eDo X x).1 = (eDo Y x).1 ∧ Agree (eDo X x).2 (eDo Y x).2 := by
  unfold eDo
  by_cases k0 : x.k = 0
  · rw [if_pos k0, if_pos k0]; obtain ⟨e, h'⟩ := h.spend ha x.u; exact ⟨by rw [e], h'⟩
  rw [if_neg k0, if_neg k0]
  by_cases k1 : x.k = 1
  · rw [if_pos k1, if_pos k1]; obtain ⟨e, h'⟩ := h.ret ha x.u; exact ⟨by rw [e], h'⟩
  rw [if_neg k1, if_neg k1]
  by_cases k2 : x.k = 2
  · rw [if_pos k2, if_pos k2]; obtain ⟨e, h'⟩ := h.give ha hb x.u; exact ⟨by rw [e], h'⟩
  rw [if_neg k2, if_neg k2]
  by_cases k3 : x.k = 3
  · rw [if_pos k3, if_pos k3]; obtain ⟨e, h'⟩ := h.send ha hb; exact ⟨by rw [e], h'⟩
  rw [if_neg k3, if_neg k3]
  by_cases k4 : x.k = 4
  · rw [if_pos k4, if_pos k4]; obtain ⟨e, h'⟩ := h.deliver ha hb x.lost x.again; exact ⟨by rw [e], h'⟩
  rw [if_neg k4, if_neg k4]; obtain ⟨e, h'⟩ := h.revoke ha; exact ⟨by rw [e], h'⟩
theorem agree_putA (Y : ES) {i : Int} (hb : isB Y.acc.length i = true) (hi : ¬ T01 i) (z : Acc) : Agree Y (Y.putA i z) := by
  have hi0 : 0 ≤ i := by simp only [isB, decide_eq_true_eq] at hb; exact hb.1
  refine ⟨by simp only [ES.putA_len], fun j hj => ?_, fun _ _ _ _ => rfl⟩
  rw [ES.putA_other hi0 hj.nonneg (fun e => hi (by rw [← e]; exact hj))]
theorem agree_putL (Y : ES) {a : Int} (ha : ¬ T01 a) (b : Int) (l : EL) : Agree Y (Y.putL a b l) := by
  refine ⟨rfl, fun _ _ => rfl, fun x y hx hy => ?_⟩
  rw [ES.putL_other _ _ _ _ _ _ (.inl (fun e => ha (by rw [← e]; exact hx)))]
/-- An operation of the others. -/
theorem agree_op (Y : ES) (x : EA) (ha : ¬ T01 x.a) (hb : ¬ T01 x.b) : Agree Y (eDo Y x).2 := by
  unfold eDo
  split
  · unfold eSpend
    split
    · exact Agree.refl Y
    · rename_i c1
      split
      · exact Agree.refl Y
      · split
        · exact Agree.refl Y
        · exact agree_putA Y (by cases e : isB Y.acc.length x.a with | true => rfl | false => exact absurd (.inl e) c1) ha _
  split
  · unfold eReturn
    split
    · exact Agree.refl Y
    · rename_i c1
      split
      · exact Agree.refl Y
      · exact agree_putA Y (by cases e : isB Y.acc.length x.a with | true => rfl | false => exact absurd (.inl e) c1) ha _
  split
  · unfold eGive
    split
    · exact Agree.refl Y
    · rename_i c1
      split
      · exact Agree.refl Y
      · split
        · exact Agree.refl Y
        · have hp : pairB Y.acc.length x.a x.b = true := by cases e : pairB Y.acc.length x.a x.b with | true => rfl | false => exact absurd (.inl e) c1
          exact (agree_putA Y (pairB_left hp) ha _).trans (agree_putL _ ha _ _)
  split
  · unfold eSend
    split
    · exact Agree.refl Y
    · split
      · exact Agree.refl Y
      · exact agree_putL _ ha _ _
  split
  · unfold eDeliver
    split
    · exact Agree.refl Y
    · rename_i c1
      have hp : pairB Y.acc.length x.a x.b = true := by simpa using c1
      cases hm : (Y.ln x.a x.b).ms with
      | nil => exact Agree.refl Y
      | cons m r =>
        simp only []
        have hn : Agree Y (eNext Y x.a x.b (if x.again then r ++ [m] else r)) := agree_putL _ ha _ _
        split
        · exact hn
        · refine hn.trans ?_
          unfold eTake
          exact ((agree_putL _ ha _ _).trans (agree_putA _ (by rw [ES.putL_acc, eNext_len]; exact pairB_right hp) hb _)).trans (agree_putL _ hb _ _)
  · unfold eRevoke
    split
    · exact Agree.refl Y
    · rename_i c1
      exact agree_putA Y (by simpa using c1) ha _
end Go.Proofs.Ytdjaofkbgkifkaa

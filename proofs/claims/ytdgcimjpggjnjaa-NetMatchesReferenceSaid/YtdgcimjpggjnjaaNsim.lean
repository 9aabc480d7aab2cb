/- The reference network and the network: the plain law. -/
import Derived.Test.YtdgcimjpggjnjaaNref6
import Derived.Test.YtdgcimjpggjnjaaNlin
set_option linter.unusedVariables false
set_option linter.unusedSimpArgs false
namespace Go.Proofs.Ytdgcimjpggjnjaa
open Go.RowKit

def cB (G : List (Int × Int)) (x y : Int) : Bool := G.any (lineB x y)
theorem cutI_of (G : List (Int × Int)) (x y : Int) : (0 ≤ cutI G x y) ↔ cB G x y = true := by
  unfold cutI cB
  cases h : cutN G x y with
  | none =>
    rw [cutN, List.findIdx?_eq_none_iff] at h
    simp only
    constructor
    · intro h'; omega
    · intro h'
      obtain ⟨p, hp, hb⟩ := List.any_eq_true.1 h'
      rw [h p hp] at hb; cases hb
  | some k =>
    rw [cutN, List.findIdx?_eq_some_iff_getElem] at h
    obtain ⟨hk, hb, _⟩ := h
    simp only
    exact ⟨fun _ => List.any_eq_true.2 ⟨_, List.getElem_mem hk, hb⟩, fun _ => by omega⟩
structure Sim (S : NS) (R : RS) : Prop where
  N : S.N = R.N
  q : ∀ x y, S.q x y = rTexts R.L x y
  c : ∀ x y, S.c x y = cB R.G x y
  live : ∀ m ∈ R.L, cB R.G m.a m.b = false
  one : ∀ x y, R.G.countP (lineB x y) ≤ 1
theorem Sim.new (n : Int) : Sim (NS.new n) ⟨n, [], []⟩ := ⟨rfl, fun _ _ => rfl, fun _ _ => rfl, fun m hm => (by cases hm), fun _ _ => by simp⟩
theorem Sim.wait {S : NS} {R : RS} (h : Sim S R) (a b : Int) : nWait S a b = rWait R a b := by
  unfold nWait waitL rWait
  rw [h.N, h.q]
theorem Sim.send {S : NS} {R : RS} (h : Sim S R) (a b : Int) (t : ByteArray) : (nSend S a b t).1 = (rSend R a b t).1 ∧ Sim (nSend S a b t).2 (rSend R a b t).2 := by
  unfold nSend rSend
  rw [h.N]
  by_cases h1 : knowsB R.N a b = false ∨ 20000 < t.size
  · rw [if_pos h1, if_pos h1]; exact ⟨rfl, h⟩
  · rw [if_neg h1, if_neg h1]
    have hk : knowsB R.N a b = true := by
      cases hk : knowsB R.N a b with
      | true => rfl
      | false => exact absurd (.inl hk) h1
    by_cases h2 : S.c a b = true
    · have h2' : 0 ≤ cutI R.G a b := by rw [cutI_of, ← h.c]; exact h2
      rw [if_pos h2, if_pos h2']; exact ⟨rfl, h⟩
    · have h2' : ¬ 0 ≤ cutI R.G a b := by rw [cutI_of, ← h.c]; exact h2
      rw [if_neg h2, if_neg h2']
      have hw : rWait R a b = S.q a b := by rw [rWait, hk, if_pos rfl, h.q]
      rw [hw]
      by_cases h3 : 100 ≤ (S.q a b).length
      · rw [if_pos h3, if_pos h3]; exact ⟨rfl, h⟩
      · rw [if_neg h3, if_neg h3]
        refine ⟨rfl, rfl, fun x y => ?_, h.c, fun m hm => ?_, h.one⟩
        · simp only
          rw [rTexts_snoc]
          by_cases hxy : x = a ∧ y = b
          · obtain ⟨rfl, rfl⟩ := hxy
            rw [qset_eq, h.q]; simp [toB]
          · rw [qset_ne hxy, h.q]
            have : toB x y ⟨a, b, t⟩ = false := by
              simp only [toB]
              rw [Bool.and_eq_false_iff]
              by_cases hx : a = x
              · right; simp; intro hy; exact hxy ⟨hx.symm, hy.symm⟩
              · left; simpa using hx
            rw [this]; simp
        · simp only [List.mem_append, List.mem_singleton] at hm
          rcases hm with hm | rfl
          · exact h.live m hm
          · simp only; rw [← h.c]; simpa using h2
/-- The first text of a pair. -/
theorem rTexts_first {a b : Int} : ∀ {L : List Msg} {k : Nat}, L.findIdx? (toB a b) = some k → ∃ m, L[k]? = some m ∧ toB a b m = true ∧ rTexts L a b = m.t :: rTexts (L.take k ++ L.drop (k + 1)) a b ∧
    ∀ x y, ¬ (x = a ∧ y = b) → rTexts (L.take k ++ L.drop (k + 1)) x y = rTexts L x y
  | [], k, h => by simp at h
  | m :: L, k, h => by
    rw [List.findIdx?_cons] at h
    by_cases hm : toB a b m = true
    · rw [if_pos hm] at h
      cases h
      refine ⟨m, rfl, hm, by simp [rTexts, hm], fun x y hxy => ?_⟩
      have : toB x y m = false := by
        cases hb : toB x y m with
        | false => rfl
        | true =>
          simp [toB] at hm hb
          exact absurd ⟨by omega, by omega⟩ hxy
      simp [rTexts, this]
    · rw [if_neg hm] at h
      obtain ⟨j, hj, rfl⟩ : ∃ j, L.findIdx? (toB a b) = some j ∧ j + 1 = k := by simpa [Option.map_eq_some_iff] using h
      obtain ⟨m', h1, h2, h3, h4⟩ := rTexts_first hj
      refine ⟨m', by simpa using h1, h2, ?_, fun x y hxy => ?_⟩
      · have e1 : rTexts (m :: L) a b = rTexts L a b := by simp [rTexts, hm]
        have e2 : rTexts ((m :: L).take (j + 1) ++ (m :: L).drop (j + 1 + 1)) a b = rTexts (L.take j ++ L.drop (j + 1)) a b := by simp [rTexts, hm]
        rw [e1, e2, h3]
      · have := h4 x y hxy
        by_cases hb : toB x y m = true
        · have e1 : rTexts (m :: L) x y = m.t :: rTexts L x y := by simp [rTexts, hb]
          have e2 : rTexts ((m :: L).take (j + 1) ++ (m :: L).drop (j + 1 + 1)) x y = m.t :: rTexts (L.take j ++ L.drop (j + 1)) x y := by simp [rTexts, hb]
          rw [e1, e2, this]
        · have e1 : rTexts (m :: L) x y = rTexts L x y := by simp [rTexts, hb]
          have e2 : rTexts ((m :: L).take (j + 1) ++ (m :: L).drop (j + 1 + 1)) x y = rTexts (L.take j ++ L.drop (j + 1)) x y := by simp [rTexts, hb]
          rw [e1, e2, this]
theorem rTexts_none {L : List Msg} {a b : Int} (h : L.findIdx? (toB a b) = none) : rTexts L a b = [] := by
  rw [List.findIdx?_eq_none_iff] at h
  rw [rTexts, List.filter_eq_nil_iff.2 (fun m hm => by simp [h m hm])]
  rfl
theorem Sim.deliver {S : NS} {R : RS} (h : Sim S R) (a b : Int) (l g : Bool) : (nDeliver S a b l g).1 = (rDeliver R a b l g).1 ∧ Sim (nDeliver S a b l g).2 (rDeliver R a b l g).2 := by
  unfold nDeliver rDeliver
  rw [h.N, h.q]
  by_cases hk : knowsB R.N a b = true
  · rw [if_pos hk, if_pos hk]
    cases hf : R.L.findIdx? (toB a b) with
    | none => rw [rTexts_none hf]; exact ⟨rfl, h⟩
    | some k =>
      obtain ⟨m, h1, h2, h3, h4⟩ := rTexts_first hf
      rw [h3]
      simp only [h1]
      refine ⟨by first | trivial | rfl, ?_⟩
      split
      · refine ⟨rfl, fun x y => ?_, h.c, fun m' hm' => h.live m' ?_, h.one⟩
        · simp only
          by_cases hxy : x = a ∧ y = b
          · obtain ⟨rfl, rfl⟩ := hxy
            rw [qset_eq]
          · rw [qset_ne hxy, h.q, h4 x y hxy]
        · simp only [List.mem_append] at hm'
          rcases hm' with hm' | hm'
          · exact List.mem_of_mem_take hm'
          · exact List.mem_of_mem_drop hm'
      · exact h
  · rw [if_neg hk, if_neg hk]; exact ⟨rfl, h⟩
theorem lineB_iff (x y a b : Int) : lineB x y (a, b) = true ↔ (x = a ∧ y = b) ∨ (x = b ∧ y = a) := by
  simp only [lineB, Bool.or_eq_true, Bool.and_eq_true, beq_iff_eq]
  constructor
  · rintro (⟨rfl, rfl⟩ | ⟨rfl, rfl⟩)
    · exact .inl ⟨rfl, rfl⟩
    · exact .inr ⟨rfl, rfl⟩
  · rintro (⟨rfl, rfl⟩ | ⟨rfl, rfl⟩)
    · exact .inl ⟨rfl, rfl⟩
    · exact .inr ⟨rfl, rfl⟩
theorem cB_snoc (G : List (Int × Int)) (p : Int × Int) (x y : Int) : cB (G ++ [p]) x y = (cB G x y || lineB x y p) := by simp [cB]
theorem cset2 (c : Int → Int → Bool) (a b : Int) (v : Bool) (x y : Int) : cset (cset c a b v) b a v x y = if lineB x y (a, b) then v else c x y := by
  by_cases h : lineB x y (a, b) = true
  · rw [if_pos h]
    rcases (lineB_iff x y a b).1 h with ⟨rfl, rfl⟩ | ⟨rfl, rfl⟩
    · by_cases h' : x = y ∧ y = x
      · obtain ⟨rfl, _⟩ := h'; rw [cset_eq]
      · rw [cset_ne h', cset_eq]
    · rw [cset_eq]
  · have h' := fun e => h ((lineB_iff x y a b).2 e)
    rw [if_neg h, cset_ne (fun e => h' (.inr e)), cset_ne (fun e => h' (.inl e))]
theorem qset2 (q : Int → Int → List ByteArray) (a b : Int) (x y : Int) : qset (qset q a b []) b a [] x y = if lineB x y (a, b) then [] else q x y := by
  by_cases h : lineB x y (a, b) = true
  · rw [if_pos h]
    rcases (lineB_iff x y a b).1 h with ⟨rfl, rfl⟩ | ⟨rfl, rfl⟩
    · by_cases h' : x = y ∧ y = x
      · obtain ⟨rfl, _⟩ := h'; rw [qset_eq]
      · rw [qset_ne h', qset_eq]
    · rw [qset_eq]
  · have h' := fun e => h ((lineB_iff x y a b).2 e)
    rw [if_neg h, qset_ne (fun e => h' (.inr e)), qset_ne (fun e => h' (.inl e))]
theorem toB_iff (x y : Int) (m : Msg) : toB x y m = true ↔ m.a = x ∧ m.b = y := by simp [toB]
theorem Sim.cut {S : NS} {R : RS} (h : Sim S R) (a b : Int) : (nTurn S a b true).1 = (rCut R a b).1 ∧ Sim (nTurn S a b true).2 (rCut R a b).2 := by
  unfold nTurn rCut
  rw [h.N]
  by_cases hk : knowsB R.N a b = true
  · rw [if_pos hk, if_pos hk]
    by_cases hc : S.c a b = true
    · have hc' : 0 ≤ cutI R.G a b := by rw [cutI_of, ← h.c]; exact hc
      rw [if_pos (by rw [hc]; rfl), if_pos hc']; exact ⟨rfl, h⟩
    · have hc' : ¬ 0 ≤ cutI R.G a b := by rw [cutI_of, ← h.c]; exact hc
      have hcb : cB R.G a b = false := by rw [← h.c]; simpa using hc
      rw [if_neg (by simpa using hc), if_neg hc']
      have hleft : ∀ m ∈ R.L, decide (cutI (R.G ++ [(a, b)]) m.a m.b < 0) = !lineB m.a m.b (a, b) := by
        intro m hm
        have h1 := cutI_of (R.G ++ [(a, b)]) m.a m.b
        rw [cB_snoc, h.live m hm, Bool.false_or] at h1
        cases hl : lineB m.a m.b (a, b) with
        | true => have := h1.2 hl; simp; omega
        | false =>
          have : ¬ 0 ≤ cutI (R.G ++ [(a, b)]) m.a m.b := fun e => by rw [h1.1 e] at hl; cases hl
          simp; omega
      refine ⟨rfl, rfl, fun x y => ?_, fun x y => ?_, fun m hm => ?_, fun x y => ?_⟩
      · simp only [if_true]
        rw [qset2, h.q]
        unfold rTexts
        rw [List.filter_filter]
        cases hl : lineB x y (a, b) with
        | true =>
          rw [if_pos rfl, List.filter_eq_nil_iff.2 (fun m hm => ?_)]
          · rfl
          · rw [hleft m hm]
            intro e
            simp only [Bool.and_eq_true] at e
            obtain ⟨e1, e2⟩ := e
            obtain ⟨rfl, rfl⟩ := (toB_iff x y m).1 e1
            rw [hl] at e2; cases e2
        | false =>
          simp only [Bool.false_eq_true, if_false]
          congr 1
          apply List.filter_congr
          intro m hm
          rw [hleft m hm]
          cases ht : toB x y m with
          | false => rfl
          | true =>
            obtain ⟨rfl, rfl⟩ := (toB_iff x y m).1 ht
            rw [hl]; rfl
      · simp only
        rw [cset2, cB_snoc, h.c]
        cases lineB x y (a, b) <;> simp
      · simp only at hm ⊢
        rw [List.mem_filter] at hm
        have h1 := hleft m hm.1
        rw [hm.2] at h1
        rw [cB_snoc, h.live m hm.1]
        cases hl : lineB m.a m.b (a, b) with
        | true => rw [hl] at h1; cases h1
        | false => rfl
      · simp only [List.countP_append, List.countP_cons, List.countP_nil]
        by_cases hl : lineB x y (a, b) = true
        · have h0 : R.G.countP (lineB x y) = 0 := by
            rw [List.countP_eq_zero]
            intro p hp hb
            have : cB R.G a b = true := List.any_eq_true.2 ⟨p, hp, by
              obtain ⟨p1, p2⟩ := p
              have e1 := (lineB_iff x y p1 p2).1 hb
              have e2 := (lineB_iff x y a b).1 hl
              rw [lineB_iff]; omega⟩
            rw [hcb] at this; cases this
          rw [h0]; simp [hl]
        · simp [hl]; exact h.one x y
  · rw [if_neg hk, if_neg hk]; exact ⟨rfl, h⟩
theorem Sim.heal {S : NS} {R : RS} (h : Sim S R) (a b : Int) : (nTurn S a b false).1 = (rHeal R a b).1 ∧ Sim (nTurn S a b false).2 (rHeal R a b).2 := by
  unfold nTurn rHeal
  rw [h.N]
  by_cases hk : knowsB R.N a b = true
  · rw [if_pos hk, if_pos hk]
    have hci := cutI_of R.G a b
    rw [← h.c] at hci
    cases hn : cutN R.G a b with
    | none =>
      rw [cutI, hn] at hci
      have : S.c a b = false := by
        cases hc : S.c a b with
        | false => rfl
        | true => have := hci.2 hc; simp at this
      rw [this]; exact ⟨rfl, h⟩
    | some k =>
      rw [cutI, hn] at hci
      have hc : S.c a b = true := hci.1 (by simp)
      rw [hc]
      simp only [Bool.true_beq, Bool.false_eq_true, if_false]
      have hn' := hn
      rw [cutN, List.findIdx?_eq_some_iff_getElem] at hn'
      obtain ⟨hkl, hb, _⟩ := hn'
      have hsplit : R.G = R.G.take k ++ R.G[k] :: R.G.drop (k + 1) := by
        rw [List.getElem_cons_drop, List.take_append_drop]
      obtain ⟨⟨p1, p2⟩, hp⟩ : ∃ p, p = R.G[k] := ⟨_, rfl⟩
      rw [← hp] at hsplit hb
      have hpab := (lineB_iff a b p1 p2).1 hb
      have hlin : ∀ x y, lineB x y (p1, p2) = lineB x y (a, b) := by
        intro x y
        have e1 := lineB_iff x y p1 p2
        have e2 := lineB_iff x y a b
        cases h1 : lineB x y (p1, p2) <;> cases h2 : lineB x y (a, b) <;> rw [h1] at e1 <;> rw [h2] at e2 <;> simp at e1 e2 <;> first | rfl | omega
      have hcnt : ∀ x y, R.G.countP (lineB x y) = (R.G.take k ++ R.G.drop (k + 1)).countP (lineB x y) + if lineB x y (a, b) then 1 else 0 := by
        intro x y
        rw [← hlin x y]
        conv => lhs; rw [hsplit]
        rw [List.countP_append, List.countP_cons, List.countP_append]
        omega
      have hany : ∀ x y, cB (R.G.take k ++ R.G.drop (k + 1)) x y = if lineB x y (a, b) then false else cB R.G x y := by
        intro x y
        cases hl : lineB x y (a, b) with
        | true =>
          have h1 := hcnt x y
          have h2 := h.one x y
          rw [hl] at h1
          have h0 : (R.G.take k ++ R.G.drop (k + 1)).countP (lineB x y) = 0 := by rw [if_pos rfl] at h1; omega
          rw [List.countP_eq_zero] at h0
          simp only [if_true]
          cases hc : cB (R.G.take k ++ R.G.drop (k + 1)) x y with
          | false => rfl
          | true =>
            obtain ⟨p, hp, hb⟩ := List.any_eq_true.1 hc
            exact absurd hb (h0 p hp)
        | false =>
          simp only [Bool.false_eq_true, if_false]
          unfold cB
          conv => rhs; rw [hsplit]
          rw [List.any_append, List.any_append, List.any_cons, hlin, hl, Bool.false_or]
      refine ⟨by first | trivial | rfl, rfl, h.q, fun x y => ?_, fun m hm => ?_, fun x y => ?_⟩
      · simp only
        rw [cset2, hany, h.c]
      · simp only at hm ⊢
        rw [hany, h.live m hm]
        split <;> rfl
      · simp only
        have h1 := hcnt x y
        have h2 := h.one x y
        split at h1 <;> omega
  · rw [if_neg hk, if_neg hk]; exact ⟨rfl, h⟩
def rDo (S : RS) (x : Stp) : Rst × RS :=
  if x.kind = 0 then (⟨(rSend S x.a x.b x.text).1, ⟨#[]⟩, false⟩, (rSend S x.a x.b x.text).2)
  else if x.kind = 1 then (⟨0, (rDeliver S x.a x.b x.lost x.again).1.1, (rDeliver S x.a x.b x.lost x.again).1.2⟩, (rDeliver S x.a x.b x.lost x.again).2)
  else if x.kind = 2 then (⟨(rCut S x.a x.b).1, ⟨#[]⟩, false⟩, (rCut S x.a x.b).2)
  else (⟨(rHeal S x.a x.b).1, ⟨#[]⟩, false⟩, (rHeal S x.a x.b).2)
theorem Sim.do {S : NS} {R : RS} (h : Sim S R) (x : Stp) : (nDo S x).1 = (rDo R x).1 ∧ Sim (nDo S x).2 (rDo R x).2 := by
  unfold nDo rDo
  split
  · obtain ⟨h1, h2⟩ := h.send x.a x.b x.text
    exact ⟨by simp only [h1], h2⟩
  · split
    · obtain ⟨h1, h2⟩ := h.deliver x.a x.b x.lost x.again
      exact ⟨by simp only [h1], h2⟩
    · split
      · obtain ⟨h1, h2⟩ := h.cut x.a x.b
        exact ⟨by simp only [h1], h2⟩
      · obtain ⟨h1, h2⟩ := h.heal x.a x.b
        exact ⟨by simp only [h1], h2⟩
/-- A step adds one message and one line at most. -/
theorem rDo_len (S : RS) (x : Stp) : (rDo S x).2.L.length ≤ S.L.length + 1 ∧ (rDo S x).2.G.length ≤ S.G.length + 1 := by
  unfold rDo
  split
  · unfold rSend
    split
    · simp
    · split
      · simp
      · split
        · simp
        · simp
  · split
    · unfold rDeliver
      split
      · split
        · simp
        · split
          · simp
          · simp only
            split
            · simp; omega
            · simp
      · simp
    · split
      · unfold rCut
        split
        · split
          · simp
          · simp only [List.length_append, List.length_singleton]
            exact ⟨Nat.le_succ_of_le (List.length_filter_le _ _), Nat.le_refl _⟩
        · simp
      · unfold rHeal
        split
        · split
          · simp
          · simp; omega
        · simp
end Go.Proofs.Ytdgcimjpggjnjaa

/- Package escrow: plain laws of deliveries. -/
import Derived.Test.YtdjaofkbgkifkaaE24
set_option linter.unusedVariables false
set_option linter.unusedSimpArgs false
namespace Go.Proofs.Ytdjaofkbgkifkaa

/-- What deliveries from a to b, and a send, leave. -/
structure Rel (a b : Int) (S S' : ES) : Prop where
  len : S'.acc.length = S.acc.length
  all : ∀ x y, (S'.ln x y).all = (S.ln x y).all
  ms : ∀ x y, ¬ (x = a ∧ y = b) → (S'.ln x y).ms = (S.ln x y).ms
  rcv : ∀ x y, ¬ (x = a ∧ y = b) → (S'.ln x y).rcv = (S.ln x y).rcv
  conf : ∀ x y, ¬ (x = b ∧ y = a) → (S'.ln x y).conf = (S.ln x y).conf
  up : (S.ln a b).rcv ≤ (S'.ln a b).rcv
  cup : (S.ln b a).conf ≤ (S'.ln b a).conf
  ac : ∀ i, 0 ≤ i → i ≠ b → S'.ac i = S.ac i
  s : (S'.ac b).s = (S.ac b).s
  u : (S.ac b).u ≤ (S'.ac b).u
  r : (S.ac b).r = true → (S'.ac b).r = true
theorem Rel.refl (a b : Int) (S : ES) : Rel a b S S := ⟨rfl, fun _ _ => rfl, fun _ _ _ => rfl, fun _ _ _ => rfl, fun _ _ _ => rfl, Nat.le_refl _, Nat.le_refl _, fun _ _ _ => rfl, rfl, Int.le_refl _, fun h => h⟩
theorem Rel.trans {a b : Int} {S T V : ES} (h : Rel a b S T) (k : Rel a b T V) : Rel a b S V :=
  ⟨k.len.trans h.len, fun x y => (k.all x y).trans (h.all x y), fun x y n => (k.ms x y n).trans (h.ms x y n), fun x y n => (k.rcv x y n).trans (h.rcv x y n), fun x y n => (k.conf x y n).trans (h.conf x y n),
    Nat.le_trans h.up k.up, Nat.le_trans h.cup k.cup, fun i h0 hi => (k.ac i h0 hi).trans (h.ac i h0 hi), k.s.trans h.s, Int.le_trans h.u k.u, fun x => k.r (h.r x)⟩
theorem Rel.ms_of (a b : Int) (S : ES) (ms : List EM) : Rel a b S (eNext S a b ms) := by
  have e : ∀ x y, ¬ (x = a ∧ y = b) → (eNext S a b ms).ln x y = S.ln x y := fun x y n => ES.putL_other _ _ _ _ _ _ (ne_or n)
  refine ⟨rfl, fun x y => ?_, fun x y n => by rw [e x y n], fun x y n => by rw [e x y n], fun x y n => ?_, ?_, ?_, fun i _ _ => rfl, rfl, Int.le_refl _, fun h => h⟩
  · by_cases h : x = a ∧ y = b
    · obtain ⟨rfl, rfl⟩ := h; simp only [eNext, ES.putL_same]
    · rw [e x y h]
  · by_cases h : x = a ∧ y = b
    · obtain ⟨rfl, rfl⟩ := h; simp only [eNext, ES.putL_same]
    · rw [e x y h]
  · simp only [eNext, ES.putL_same]; exact Nat.le_refl _
  · by_cases h : b = a ∧ a = b
    · rw [h.1]; simp only [eNext, ES.putL_same]; exact Nat.le_refl _
    · rw [e b a h]; exact Nat.le_refl _
theorem eTake_ln {S : ES} {a b : Int} (m : EM) (hne : a ≠ b) : ((eTake S a b m).ln a b) = { S.ln a b with rcv := max (S.ln a b).rcv m.l } ∧ ((eTake S a b m).ln b a) = { S.ln b a with conf := max (S.ln b a).conf m.c } ∧
    (∀ x y, ¬ (x = a ∧ y = b) → ¬ (x = b ∧ y = a) → (eTake S a b m).ln x y = S.ln x y) := by
  refine ⟨?_, ?_, fun x y n1 n2 => ?_⟩
  · unfold eTake; simp only []
    rw [ES.putL_other _ _ _ _ _ _ (.inl hne)]
    simp only [ES.putA_ln, ES.putL_same]
  · unfold eTake; simp only []
    rw [ES.putL_same]
  · unfold eTake; simp only []
    rw [ES.putL_other _ _ _ _ _ _ (ne_or n2), ES.putA_ln, ES.putL_other _ _ _ _ _ _ (ne_or n1)]
theorem eTake_ac {S : ES} {a b : Int} (m : EM) (hb : isB S.acc.length b = true) : (eTake S a b m).ac b = ⟨(S.ac b).u + eGain (S.ln a b) m, (S.ac b).s, (S.ac b).r || m.r⟩ ∧ ∀ i, 0 ≤ i → i ≠ b → (eTake S a b m).ac i = S.ac i := by
  have hb0 : 0 ≤ b := by simp only [isB, decide_eq_true_eq] at hb; exact hb.1
  refine ⟨?_, fun i h0 hi => ?_⟩
  · show (ES.putA _ b _).ac b = _
    rw [ES.putA_same (S := S.putL a b { S.ln a b with rcv := max (S.ln a b).rcv m.l }) hb]
  · show (ES.putA _ b _).ac i = _
    rw [ES.putA_other hb0 h0 hi]; rfl
theorem Rel.take {U : Int} {t : Nat} {S : ES} (h : Inv U t S) {a b : Int} (hp : pairB S.acc.length a b = true) (m : EM) : Rel a b S (eTake S a b m) := by
  have hne := pairB_ne hp
  obtain ⟨h1, h2, h3⟩ := eTake_ln (S := S) m hne
  obtain ⟨h4, h5⟩ := eTake_ac (S := S) (a := a) m (pairB_right hp)
  have hg := gain_nonneg (h.sh.pos a b hp) m
  have cases3 : ∀ {P : EL → Prop} {x y : Int}, (¬ (x = a ∧ y = b) → ¬ (x = b ∧ y = a) → P (S.ln x y)) → ((x = a ∧ y = b) → P { S.ln a b with rcv := max (S.ln a b).rcv m.l }) → ((x = b ∧ y = a) → P { S.ln b a with conf := max (S.ln b a).conf m.c }) → P ((eTake S a b m).ln x y) := by
    intro P x y q1 q2 q3
    by_cases n1 : x = a ∧ y = b
    · have q := q2 n1
      obtain ⟨rfl, rfl⟩ := n1
      rw [h1]; exact q
    · by_cases n2 : x = b ∧ y = a
      · have q := q3 n2
        obtain ⟨rfl, rfl⟩ := n2
        rw [h2]; exact q
      · rw [h3 x y n1 n2]; exact q1 n1 n2
  refine ⟨eTake_len S a b m, fun x y => ?_, fun x y n => ?_, fun x y n => ?_, fun x y n => ?_, ?_, ?_, h5, by rw [h4], ?_, ?_⟩
  · exact cases3 (P := fun l => l.all = (S.ln x y).all) (fun _ _ => rfl) (fun e => by rw [e.1, e.2]) (fun e => by rw [e.1, e.2])
  · exact cases3 (P := fun l => l.ms = (S.ln x y).ms) (fun _ _ => rfl) (fun e => absurd e n) (fun e => by rw [e.1, e.2])
  · exact cases3 (P := fun l => l.rcv = (S.ln x y).rcv) (fun _ _ => rfl) (fun e => absurd e n) (fun e => by rw [e.1, e.2])
  · exact cases3 (P := fun l => l.conf = (S.ln x y).conf) (fun _ _ => rfl) (fun e => by rw [e.1, e.2]) (fun e => absurd e n)
  · rw [h1]; simp only []; omega
  · rw [h2]; simp only []; omega
  · rw [h4]; simp only []; omega
  · rw [h4]; intro hr; simp only [hr, Bool.true_or]
theorem Rel.deliver {U : Int} {t : Nat} {S : ES} (h : Inv U t S) (a b : Int) (lost again : Bool) : Rel a b S (eDeliver S a b lost again).2 := by
  unfold eDeliver
  split
  · exact Rel.refl _ _ _
  · rename_i h1
    have hp : pairB S.acc.length a b = true := by simpa using h1
    cases hm : (S.ln a b).ms with
    | nil => exact Rel.refl _ _ _
    | cons m r =>
      simp only []
      have h1 : Inv U t (eNext S a b (if again then r ++ [m] else r)) := by
        have := eDeliver_inv h a b true again
        unfold eDeliver at this
        rw [if_neg (by rw [hp]; simp), hm] at this
        exact this
      cases lost with
      | true => exact Rel.ms_of _ _ _ _
      | false => exact (Rel.ms_of _ _ _ _).trans (Rel.take h1 hp m)
theorem Rel.iter {U : Int} {t : Nat} {S : ES} (h : Inv U t S) (again : Bool) (a b : Int) : ∀ k, Rel a b S (eIter again S a b k)
  | 0 => Rel.refl _ _ _
  | k + 1 => (Rel.iter h again a b k).trans (Rel.deliver (eIter_inv h again a b k) a b false again)
theorem Rel.empty {U : Int} {t : Nat} {S : ES} (h : Inv U t S) (a b : Int) : Rel a b S (eEmpty S a b) := Rel.iter h false a b _
theorem eEmpty_inv {U : Int} {t : Nat} {S : ES} (h : Inv U t S) (a b : Int) : Inv U t (eEmpty S a b) := eIter_inv h false a b _
theorem eEmpty_ms {S : ES} {a b : Int} (hp : pairB S.acc.length a b = true) : ((eEmpty S a b).ln a b).ms = [] := by
  unfold eEmpty
  rw [if_pos hp, eIter_ms hp _ (Nat.le_refl _), List.drop_length]
theorem eEmpty_len (S : ES) (a b : Int) : (eEmpty S a b).acc.length = S.acc.length := eIter_len false S a b _
/-- One message waits: it is the one that the emptying delivers. -/
theorem eEmpty_one {S : ES} {a b : Int} (hp : pairB S.acc.length a b = true) {m : EM} (hm : (S.ln a b).ms = [m]) : eEmpty S a b = eTake (eNext S a b []) a b m ∧ eDeliver S a b false false = (true, eTake (eNext S a b []) a b m) := by
  have e : eDeliver S a b false false = (true, eTake (eNext S a b []) a b m) := by unfold eDeliver; rw [if_neg (by rw [hp]; simp), hm]; rfl
  refine ⟨?_, e⟩
  unfold eEmpty
  rw [if_pos hp, hm]
  show (eDeliver (eIter false S a b 0) a b false false).2 = _
  rw [eIter, e]
/-- A send onto an empty queue. -/
theorem eSend_empty {S : ES} {a b : Int} (hp : pairB S.acc.length a b = true) (hm : (S.ln a b).ms = []) : eSend S a b = (0, eNext S a b [eMsg S a b]) := by
  unfold eSend
  rw [if_neg (by rw [hp]; simp), hm, if_neg (by simp)]
  rfl
/-- What a message that is sent onto an empty queue and delivered leaves. -/
structure Told (a b : Int) (S S' : ES) : Prop where
  rel : Rel a b S S'
  none : (S'.ln a b).ms = []
  got : (S'.ln a b).rcv = (S'.ln a b).all.length
  knows : (S'.ln b a).conf = (S'.ln b a).rcv
  rev : (S.ac a).r = true → (S'.ac b).r = true
  gain : (S'.ac b).u = (S.ac b).u + (S.ln a b).fly
theorem told_one {U : Int} {t : Nat} {S : ES} (h : Inv U t S) {a b : Int} (hp : pairB S.acc.length a b = true) (hm : (S.ln a b).ms = []) :
    eDeliver (eSend S a b).2 a b false false = (true, eEmpty (eSend S a b).2 a b) ∧ Told a b S (eEmpty (eSend S a b).2 a b) ∧ Inv U t (eEmpty (eSend S a b).2 a b) := by
  have e := eSend_empty hp hm
  rw [e]
  have hp1 : pairB (eNext S a b [eMsg S a b]).acc.length a b = true := hp
  obtain ⟨e1, e2⟩ := eEmpty_one (S := eNext S a b [eMsg S a b]) hp1 (eNext_ms _ _ _ _)
  rw [eNext_eNext] at e1 e2
  have hi := eSend_inv h a b
  rw [e] at hi
  have hi2 := eEmpty_inv hi a b
  refine ⟨by rw [e1]; exact e2, ?_, hi2⟩
  have hne := pairB_ne hp
  have h0 : Inv U t (eNext S a b []) := eNext_inv h hp [] (by simp) (by intro m hm; cases hm)
  simp only []
  rw [e1]
  obtain ⟨h1, h2, h3⟩ := eTake_ln (S := eNext S a b []) (eMsg S a b) hne
  obtain ⟨h4, h5⟩ := eTake_ac (S := eNext S a b []) (a := a) (eMsg S a b) (pairB_right hp)
  have o := h.sh.ok hp
  have ob := h.sh.ok (pairB_swap hp)
  have eb : (eNext S a b []).ln b a = S.ln b a := ES.putL_other _ _ _ _ _ _ (.inl hne.symm)
  have ea : (eNext S a b []).ln a b = { S.ln a b with ms := [] } := by simp only [eNext, ES.putL_same]
  refine ⟨(Rel.ms_of a b S []).trans (Rel.take h0 hp _), ?_, ?_, ?_, ?_, ?_⟩
  · rw [h1, ea]
  · rw [h1, ea]; simp only [eMsg]; have := o.ra; omega
  · rw [h2, eb]; simp only [eMsg]; have := ob.cr; omega
  · intro hr
    rw [h4]
    simp only [eMsg, hr, Bool.or_true]
  · rw [h4, ea]
    have : eGain { S.ln a b with ms := [] } (eMsg S a b) = (S.ln a b).fly := by
      simp only [eGain, eMsg, EL.fly, List.take_length]
    rw [this]; rfl
theorem told_all {U : Int} {t : Nat} {S : ES} (h : Inv U t S) {a b : Int} (hp : pairB S.acc.length a b = true) :
    (eSend (eEmpty S a b) a b).1 = 0 ∧ Rel a b S (eEmpty (eSend (eEmpty S a b) a b).2 a b) ∧ Told a b (eEmpty S a b) (eEmpty (eSend (eEmpty S a b) a b).2 a b) ∧ Inv U t (eEmpty (eSend (eEmpty S a b) a b).2 a b) := by
  have h1 := eEmpty_inv h a b
  have hp1 : pairB (eEmpty S a b).acc.length a b = true := by rw [eEmpty_len]; exact hp
  have hm := eEmpty_ms hp
  have e := eSend_empty hp1 hm
  obtain ⟨_, t1, t2⟩ := told_one h1 hp1 hm
  exact ⟨by rw [e], (Rel.empty h a b).trans t1.rel, t1, t2⟩
end Go.Proofs.Ytdjaofkbgkifkaa

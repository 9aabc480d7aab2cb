/- Package escrow: each operation keeps what is true of an escrow. -/
import Derived.Test.YtdjaofkbgkifkaaEop
set_option linter.unusedVariables false
set_option linter.unusedSimpArgs false
namespace Go.Proofs.Ytdjaofkbgkifkaa

def eSpend (S : ES) (i k : Int) : Int × ES :=
  if isB S.acc.length i = false ∨ k < 1 then (1, S) else if (S.ac i).r then (22, S) else if (S.ac i).u < k then (19, S)
  else (0, S.putA i ⟨(S.ac i).u - k, (S.ac i).s + k, (S.ac i).r⟩)
def eReturn (S : ES) (i k : Int) : Int × ES :=
  if isB S.acc.length i = false ∨ k < 1 then (1, S) else if (S.ac i).s < k then (19, S)
  else (0, S.putA i ⟨(S.ac i).u + k, (S.ac i).s - k, (S.ac i).r⟩)
def eGive (S : ES) (a b k : Int) : Int × ES :=
  if pairB S.acc.length a b = false ∨ k < 1 then (1, S) else if (S.ac a).u < k then (19, S)
  else if (S.ln a b).conf + 100 ≤ (S.ln a b).all.length then (28, S)
  else (0, (S.putA a ⟨(S.ac a).u - k, (S.ac a).s, (S.ac a).r⟩).putL a b { S.ln a b with all := (S.ln a b).all ++ [k] })
def eMsg (S : ES) (a b : Int) : EM := ⟨(S.ln a b).conf, (S.ln a b).all.length, (S.ln b a).rcv, (S.ac a).r⟩
def eSend (S : ES) (a b : Int) : Int × ES :=
  if pairB S.acc.length a b = false then (1, S) else if 100 ≤ (S.ln a b).ms.length then (28, S)
  else (0, S.putL a b { S.ln a b with ms := (S.ln a b).ms ++ [eMsg S a b] })
def eGain (l : EL) (m : EM) : Int := ((l.all.take m.l).drop l.rcv).sum
/-- A message that is not lost. -/
def eTake (S : ES) (a b : Int) (m : EM) : ES :=
  let S2 := (S.putL a b { S.ln a b with rcv := max (S.ln a b).rcv m.l }).putA b ⟨(S.ac b).u + eGain (S.ln a b) m, (S.ac b).s, (S.ac b).r || m.r⟩
  S2.putL b a { S.ln b a with conf := max (S.ln b a).conf m.c }
def eNext (S : ES) (a b : Int) (ms : List EM) : ES := S.putL a b { S.ln a b with ms := ms }
def eDeliver (S : ES) (a b : Int) (lost again : Bool) : Bool × ES :=
  if pairB S.acc.length a b = false then (false, S) else
  match (S.ln a b).ms with
  | [] => (false, S)
  | m :: r =>
    let S1 := eNext S a b (if again then r ++ [m] else r)
    (true, if lost then S1 else eTake S1 a b m)
def eRevoke (S : ES) (i : Int) : Int × ES :=
  if isB S.acc.length i = false then (1, S) else (0, S.putA i ⟨(S.ac i).u, (S.ac i).s, true⟩)

theorem eSpend_inv {U : Int} {t : Nat} {S : ES} (h : Inv U t S) (i k : Int) : Inv U t (eSpend S i k).2 := by
  unfold eSpend
  split
  · exact h
  · rename_i h1
    have hi : isB S.acc.length i = true := by cases e : isB S.acc.length i <;> simp_all
    split
    · exact h
    · split
      · exact h
      · have hb := h.bound hi
        have hp := putA_units hi ⟨(S.ac i).u - k, (S.ac i).s + k, (S.ac i).r⟩
        refine ⟨h.sh.putA i _ (by simp only []; omega) (by simp only []; omega), ?_⟩
        have := h.sum
        rw [hp.1, hp.2.1, hp.2.2]
        simp only []
        omega
theorem eReturn_inv {U : Int} {t : Nat} {S : ES} (h : Inv U t S) (i k : Int) : Inv U t (eReturn S i k).2 := by
  unfold eReturn
  split
  · exact h
  · rename_i h1
    have hi : isB S.acc.length i = true := by cases e : isB S.acc.length i <;> simp_all
    split
    · exact h
    · have hb := h.bound hi
      have hp := putA_units hi ⟨(S.ac i).u + k, (S.ac i).s - k, (S.ac i).r⟩
      refine ⟨h.sh.putA i _ (by simp only []; omega) (by simp only []; omega), ?_⟩
      have := h.sum
      rw [hp.1, hp.2.1, hp.2.2]
      simp only []
      omega
theorem eRevoke_inv {U : Int} {t : Nat} {S : ES} (h : Inv U t S) (i : Int) : Inv U t (eRevoke S i).2 := by
  unfold eRevoke
  split
  · exact h
  · rename_i h1
    have hi : isB S.acc.length i = true := by simpa using h1
    have hb := h.bound hi
    have hp := putA_units hi ⟨(S.ac i).u, (S.ac i).s, true⟩
    refine ⟨h.sh.putA i _ hb.1 hb.2.1, ?_⟩
    have := h.sum
    rw [hp.1, hp.2.1, hp.2.2]
    simp only []
    omega
theorem eGive_inv {U : Int} {t : Nat} {S : ES} (h : Inv U t S) (a b k : Int) : Inv U (t + 1) (eGive S a b k).2 := by
  unfold eGive
  split
  · exact h.mono (Nat.le_succ t)
  · rename_i h1
    have hp : pairB S.acc.length a b = true := by cases e : pairB S.acc.length a b <;> simp_all
    have hk : 1 ≤ k := by omega
    split
    · exact h.mono (Nat.le_succ t)
    · split
      · exact h.mono (Nat.le_succ t)
      · have ha := pairB_left hp
        have hb := h.bound ha
        have hu := putA_units ha ⟨(S.ac a).u - k, (S.ac a).s, (S.ac a).r⟩
        have hp' : pairB (S.putA a ⟨(S.ac a).u - k, (S.ac a).s, (S.ac a).r⟩).acc.length a b = true := by rw [ES.putA_len]; exact hp
        have hl := putL_units hp' { S.ln a b with all := (S.ln a b).all ++ [k] }
        have o := h.sh.ok hp
        have hr := o.ra
        refine ⟨((h.sh.mono (Nat.le_succ t)).putA a _ (by simp only []; omega) (by simp only []; omega)).putL hp' ?_ (Nat.le_refl _), ?_⟩
        · refine ⟨o.cr, ?_, ?_, ?_, ?_, o.mq, ?_⟩
          · simp only [List.length_append, List.length_singleton]; omega
          · simp only [List.length_append, List.length_singleton]; omega
          · simp only [List.length_append, List.length_singleton]; have := o.tm; omega
          · intro x hx
            rcases List.mem_append.1 hx with hx | hx
            · exact o.pos x hx
            · simp at hx; omega
          · intro m hm
            have := o.mm m hm
            simp only [List.length_append, List.length_singleton]
            exact ⟨this.1, this.2.1, by omega, this.2.2.2.1, this.2.2.2.2⟩
        · have := h.sum
          rw [hl.1, hl.2.1, hl.2.2, hu.1, hu.2.1, hu.2.2]
          simp only [EL.fly, ES.putA_ln]
          rw [List.drop_append_of_le_length hr, List.sum_append]
          simp only [List.sum_cons, List.sum_nil]
          omega
theorem eSend_inv {U : Int} {t : Nat} {S : ES} (h : Inv U t S) (a b : Int) : Inv U t (eSend S a b).2 := by
  unfold eSend
  split
  · exact h
  · rename_i h1
    have hp : pairB S.acc.length a b = true := by simpa using h1
    split
    · exact h
    · rename_i h2
      have o := h.sh.ok hp
      have hl := putL_units hp { S.ln a b with ms := (S.ln a b).ms ++ [eMsg S a b] }
      refine ⟨h.sh.putL hp ⟨o.cr, o.ra, o.q, o.tm, o.pos, ?_, ?_⟩ (Nat.le_refl _), ?_⟩
      · simp only [List.length_append, List.length_singleton]; omega
      · intro m hm
        rcases List.mem_append.1 hm with hm | hm
        · exact o.mm m hm
        · simp at hm; subst hm
          have h1 := o.cr
          have h2 := o.ra
          have h3 := o.q
          simp only [eMsg]
          exact ⟨h1, by omega, Nat.le_refl _, by omega, Nat.le_refl _⟩
      · have := h.sum
        rw [hl.1, hl.2.1, hl.2.2]
        simp only [EL.fly]
        omega
theorem fly_take (l : EL) (m : EM) (h1 : l.rcv ≤ l.all.length) (h2 : m.l ≤ l.all.length) : (l.all.drop l.rcv).sum = eGain l m + (l.all.drop (max l.rcv m.l)).sum := by
  unfold eGain
  rcases Nat.le_total m.l l.rcv with h | h
  · have : (l.all.take m.l).drop l.rcv = [] := List.drop_eq_nil_of_le (by rw [List.length_take]; omega)
    rw [Nat.max_eq_left h, this]
    simp
  · rw [Nat.max_eq_right h, ← List.sum_append, ← List.drop_append_of_le_length (by rw [List.length_take]; omega), List.take_append_drop]
theorem gain_nonneg {l : EL} (h : ∀ x ∈ l.all, 1 ≤ x) (m : EM) : 0 ≤ eGain l m :=
  sum_nonneg _ (fun x hx => by have := h x (List.mem_of_mem_take (List.mem_of_mem_drop hx)); omega)
theorem eNext_inv {U : Int} {t : Nat} {S : ES} (h : Inv U t S) {a b : Int} (hp : pairB S.acc.length a b = true) (ms : List EM) (hl : ms.length ≤ 100) (hm : ∀ m ∈ ms, m ∈ (S.ln a b).ms) : Inv U t (eNext S a b ms) := by
  have o := h.sh.ok hp
  have hu := putL_units hp { S.ln a b with ms := ms }
  refine ⟨h.sh.putL hp ⟨o.cr, o.ra, o.q, o.tm, o.pos, hl, fun m hm' => o.mm m (hm m hm')⟩ (Nat.le_refl _), ?_⟩
  have := h.sum
  unfold eNext
  rw [hu.1, hu.2.1, hu.2.2]
  simp only [EL.fly]
  omega
/-- A message that a line may have. -/
def MsgOK (S : ES) (a b : Int) (m : EM) : Prop := m.f ≤ (S.ln a b).rcv ∧ m.f ≤ m.l ∧ m.l ≤ (S.ln a b).all.length ∧ m.l ≤ m.f + 100 ∧ m.c ≤ (S.ln b a).rcv
theorem eTake_inv {U : Int} {t : Nat} {S : ES} (h : Inv U t S) {a b : Int} (hp : pairB S.acc.length a b = true) (m : EM) (hm : MsgOK S a b m) : Inv U t (eTake S a b m) := by
  have o := h.sh.ok hp
  have hq := pairB_swap hp
  have ob := h.sh.ok hq
  have hne := pairB_ne hp
  obtain ⟨m1, m2, m3, m4, m5⟩ := hm
  have hg := gain_nonneg o.pos m
  have hb := pairB_right hp
  have hac := h.sh.ac hb
  -- first the line
  have ol : LineOK t { S.ln a b with rcv := max (S.ln a b).rcv m.l } (S.ln b a) := by
    have h1 := o.cr
    have h2 := o.ra
    refine ⟨?_, ?_, o.q, o.tm, o.pos, o.mq, fun m' hm' => ?_⟩
    · simp only []; omega
    · simp only []; omega
    · have := o.mm m' hm'
      simp only []
      omega
  have s1 := h.sh.putL hp ol (by simp only []; omega)
  have u1 := putL_units hp { S.ln a b with rcv := max (S.ln a b).rcv m.l }
  obtain ⟨S1, hS1⟩ : ∃ S1, S1 = S.putL a b { S.ln a b with rcv := max (S.ln a b).rcv m.l } := ⟨_, rfl⟩
  have e1 : S1.acc = S.acc := by rw [hS1]; rfl
  have e2 : S1.ln b a = S.ln b a := by rw [hS1]; exact ES.putL_other _ _ _ _ _ _ (.inl hne.symm)
  have e3 : (S1.ln a b).rcv = max (S.ln a b).rcv m.l := by rw [hS1, ES.putL_same]
  have e4 : S1.ac b = S.ac b := by rw [hS1]; rfl
  rw [← hS1] at s1 u1
  have s2 := s1.putA b ⟨(S.ac b).u + eGain (S.ln a b) m, (S.ac b).s, (S.ac b).r || m.r⟩ (by simp only []; omega) hac.2
  have u2 := putA_units (S := S1) (i := b) (by rw [e1]; exact hb) ⟨(S.ac b).u + eGain (S.ln a b) m, (S.ac b).s, (S.ac b).r || m.r⟩
  rw [e4] at u2
  obtain ⟨S2, hS2⟩ : ∃ S2, S2 = S1.putA b ⟨(S.ac b).u + eGain (S.ln a b) m, (S.ac b).s, (S.ac b).r || m.r⟩ := ⟨_, rfl⟩
  have f1 : S2.acc.length = S.acc.length := by rw [hS2, ES.putA_len, e1]
  have f2 : S2.ln = S1.ln := by rw [hS2]; rfl
  rw [← hS2] at s2 u2
  have hq2 : pairB S2.acc.length b a = true := by rw [f1]; exact hq
  have ok2 := s2.ok hq2
  rw [f2, e2] at ok2
  have ol2 : LineOK t { S.ln b a with conf := max (S.ln b a).conf m.c } (S1.ln a b) := by
    have h1 := ok2.cr
    have h2 := ok2.q
    refine ⟨?_, ok2.ra, ?_, ok2.tm, ok2.pos, ok2.mq, fun m' hm' => ok2.mm m' hm'⟩
    · simp only []; omega
    · simp only []; omega
  have s3 := s2.putL hq2 (l := { S.ln b a with conf := max (S.ln b a).conf m.c }) (by rw [f2]; exact ol2) (by rw [f2, e2]; exact Nat.le_refl _)
  have u3 := putL_units hq2 { S.ln b a with conf := max (S.ln b a).conf m.c }
  rw [f2, e2] at u3
  have hE : eTake S a b m = S2.putL b a { S.ln b a with conf := max (S.ln b a).conf m.c } := by rw [hS2, hS1]; rfl
  rw [hE]
  refine ⟨s3, ?_⟩
  have := h.sum
  have hf := fly_take (S.ln a b) m o.ra m3
  rw [u3.1, u3.2.1, u3.2.2, u2.1, u2.2.1, u2.2.2, u1.1, u1.2.1, u1.2.2]
  simp only [EL.fly]
  omega
theorem eDeliver_inv {U : Int} {t : Nat} {S : ES} (h : Inv U t S) (a b : Int) (lost again : Bool) : Inv U t (eDeliver S a b lost again).2 := by
  unfold eDeliver
  split
  · exact h
  · rename_i h1
    have hp : pairB S.acc.length a b = true := by simpa using h1
    have o := h.sh.ok hp
    cases hm : (S.ln a b).ms with
    | nil => exact h
    | cons m r =>
      simp only []
      have hlen := o.mq
      rw [hm] at hlen
      simp only [List.length_cons] at hlen
      have h1 : Inv U t (eNext S a b (if again then r ++ [m] else r)) := by
        refine eNext_inv h hp _ ?_ ?_
        · split
          · simp; omega
          · omega
        · intro m' hm'
          rw [hm]
          split at hm'
          · rcases List.mem_append.1 hm' with hm' | hm'
            · simp [hm']
            · simp at hm'; simp [hm']
          · simp [hm']
      split
      · exact h1
      · refine eTake_inv h1 hp m ?_
        have hmm := o.mm m (by rw [hm]; simp)
        simp only [MsgOK, eNext, ES.putL_same, ES.putL_other _ _ _ _ _ _ (.inl (pairB_ne hp).symm)]
        exact hmm
/-- An operation: the kind, the replicas, the units, lost, again. -/
structure EA where
  k : Int
  a : Int
  b : Int
  u : Int
  lost : Bool
  again : Bool
deriving Inhabited
def eDo (S : ES) (x : EA) : (Int × Bool) × ES :=
  if x.k = 0 then (((eSpend S x.a x.u).1, false), (eSpend S x.a x.u).2)
  else if x.k = 1 then (((eReturn S x.a x.u).1, false), (eReturn S x.a x.u).2)
  else if x.k = 2 then (((eGive S x.a x.b x.u).1, false), (eGive S x.a x.b x.u).2)
  else if x.k = 3 then (((eSend S x.a x.b).1, false), (eSend S x.a x.b).2)
  else if x.k = 4 then ((0, (eDeliver S x.a x.b x.lost x.again).1), (eDeliver S x.a x.b x.lost x.again).2)
  else (((eRevoke S x.a).1, false), (eRevoke S x.a).2)
theorem eDo_inv {U : Int} {t : Nat} {S : ES} (h : Inv U t S) (x : EA) : Inv U (t + 1) (eDo S x).2 := by
  unfold eDo
  split
  · exact (eSpend_inv h _ _).mono (Nat.le_succ t)
  split
  · exact (eReturn_inv h _ _).mono (Nat.le_succ t)
  split
  · exact eGive_inv h _ _ _
  split
  · exact (eSend_inv h _ _).mono (Nat.le_succ t)
  split
  · exact (eDeliver_inv h _ _ _ _).mono (Nat.le_succ t)
  · exact (eRevoke_inv h _).mono (Nat.le_succ t)
/-- The numbers of replicas stay. -/
theorem eTake_len (S : ES) (a b : Int) (m : EM) : (eTake S a b m).acc.length = S.acc.length := by simp [eTake]
theorem eDeliver_len (S : ES) (a b : Int) (lost again : Bool) : (eDeliver S a b lost again).2.acc.length = S.acc.length := by
  unfold eDeliver
  split
  · rfl
  · cases (S.ln a b).ms with
    | nil => rfl
    | cons m r =>
      simp only []
      split
      · rfl
      · rw [eTake_len]; rfl
theorem eSpend_len (S : ES) (i k : Int) : (eSpend S i k).2.acc.length = S.acc.length := by
  unfold eSpend; repeat' split
  all_goals first | rfl | simp
theorem eReturn_len (S : ES) (i k : Int) : (eReturn S i k).2.acc.length = S.acc.length := by
  unfold eReturn; repeat' split
  all_goals first | rfl | simp
theorem eGive_len (S : ES) (a b k : Int) : (eGive S a b k).2.acc.length = S.acc.length := by
  unfold eGive; repeat' split
  all_goals first | rfl | simp
theorem eSend_len (S : ES) (a b : Int) : (eSend S a b).2.acc.length = S.acc.length := by
  unfold eSend; repeat' split
  all_goals first | rfl | simp
theorem eRevoke_len (S : ES) (i : Int) : (eRevoke S i).2.acc.length = S.acc.length := by
  unfold eRevoke; repeat' split
  all_goals first | rfl | simp
theorem eDo_len (S : ES) (x : EA) : (eDo S x).2.acc.length = S.acc.length := by
  unfold eDo
  split
  · exact eSpend_len _ _ _
  split
  · exact eReturn_len _ _ _
  split
  · exact eGive_len _ _ _ _
  split
  · exact eSend_len _ _ _
  split
  · exact eDeliver_len _ _ _ _ _
  · exact eRevoke_len _ _
end Go.Proofs.Ytdjaofkbgkifkaa

/- NetLines: the plain law. -/
import Derived.Test.YtdgcimjpggjnjaaNdo
set_option linter.unusedVariables false
set_option linter.unusedSimpArgs false
namespace Go.Proofs.Ytdgcimjpggjnjaa
open Go.RowKit

/-- The pair of the step is the pair that is watched. -/
def onB (x : Stp) (a b : Int) : Bool := (x.a == a && x.b == b) || (x.a == b && x.b == a)
structure Lin (S T : NS) (a b : Int) (cut : Bool) : Prop where
  N : S.N = T.N
  q1 : S.q a b = T.q a b
  q2 : S.q b a = T.q b a
  c1 : S.c a b = T.c a b
  c2 : S.c b a = T.c b a
  sym : S.c a b = S.c b a
  is : cut = S.c a b
  e1 : S.c a b = true → S.q a b = []
  e2 : S.c a b = true → S.q b a = []
def cutB (cut : Bool) (k e : Int) : Bool := (cut && (k == 0 || k == 1 || k == 2 || !(e == 0))) || (k == 2 && e == 0)

theorem Lin.new (n a b : Int) : Lin (NS.new n) (NS.new n) a b false := ⟨rfl, rfl, rfl, rfl, rfl, rfl, rfl, fun _ => rfl, fun _ => rfl⟩
theorem Lin.swap {S T : NS} {a b : Int} {cut : Bool} (h : Lin S T a b cut) : Lin S T b a cut := ⟨h.N, h.q2, h.q1, h.c2, h.c1, h.sym.symm, by rw [← h.sym]; exact h.is, fun e => h.e2 (by rw [h.sym]; exact e), fun e => h.e1 (by rw [h.sym]; exact e)⟩
theorem qset_ne {q : Int → Int → List ByteArray} {a b x y : Int} {l : List ByteArray} (h : ¬ (x = a ∧ y = b)) : qset q a b l x y = q x y := by unfold qset; rw [if_neg h]
theorem qset_eq {q : Int → Int → List ByteArray} {a b : Int} {l : List ByteArray} : qset q a b l a b = l := by simp [qset]
theorem cset_ne {q : Int → Int → Bool} {a b x y : Int} {l : Bool} (h : ¬ (x = a ∧ y = b)) : cset q a b l x y = q x y := by unfold cset; rw [if_neg h]
theorem cset_eq {q : Int → Int → Bool} {a b : Int} {l : Bool} : cset q a b l a b = l := by simp [cset]
/-- A step of another pair leaves the pair's queues and lines. -/
theorem nDo_other (S : NS) (x : Stp) (u v : Int) (h1 : ¬ (u = x.a ∧ v = x.b)) (h2 : ¬ (u = x.b ∧ v = x.a)) : (nDo S x).2.N = S.N ∧ (nDo S x).2.q u v = S.q u v ∧ (nDo S x).2.c u v = S.c u v := by
  have ht : ∀ t, (nTurn S x.a x.b t).2.N = S.N ∧ (nTurn S x.a x.b t).2.q u v = S.q u v ∧ (nTurn S x.a x.b t).2.c u v = S.c u v := by
    intro t
    unfold nTurn
    split
    · split
      · exact ⟨rfl, rfl, rfl⟩
      · refine ⟨rfl, ?_, ?_⟩
        · cases t with
          | false => rfl
          | true => simp only [if_true]; rw [qset_ne h2, qset_ne h1]
        · simp only; rw [cset_ne h2, cset_ne h1]
    · exact ⟨rfl, rfl, rfl⟩
  unfold nDo
  split
  · unfold nSend
    split
    · exact ⟨rfl, rfl, rfl⟩
    · split
      · exact ⟨rfl, rfl, rfl⟩
      · split
        · exact ⟨rfl, rfl, rfl⟩
        · exact ⟨rfl, qset_ne h1, rfl⟩
  · split
    · unfold nDeliver
      split
      · split
        · exact ⟨rfl, rfl, rfl⟩
        · simp only
          split
          · exact ⟨rfl, qset_ne h1, rfl⟩
          · exact ⟨rfl, rfl, rfl⟩
      · exact ⟨rfl, rfl, rfl⟩
    · split
      · exact ht _
      · exact ht _
theorem Lin.other {S T : NS} {a b : Int} {cut : Bool} (h : Lin S T a b cut) (x : Stp) (hx : onB x a b = false) : Lin (nDo S x).2 T a b cut := by
  have hx1 : ¬ (a = x.a ∧ b = x.b) := fun ⟨h1, h2⟩ => by subst h1; subst h2; simp [onB] at hx
  have hx2 : ¬ (a = x.b ∧ b = x.a) := fun ⟨h1, h2⟩ => by subst h1; subst h2; simp [onB] at hx
  obtain ⟨n1, n2, n3⟩ := nDo_other S x a b hx1 hx2
  obtain ⟨_, n4, n5⟩ := nDo_other S x b a (fun h => hx2 ⟨h.2, h.1⟩) (fun h => hx1 ⟨h.2, h.1⟩)
  exact ⟨by rw [n1]; exact h.N, by rw [n2]; exact h.q1, by rw [n4]; exact h.q2, by rw [n3]; exact h.c1, by rw [n5]; exact h.c2, by rw [n3, n5]; exact h.sym, by rw [n3]; exact h.is,
    fun e => by rw [n3] at e; rw [n2]; exact h.e1 e, fun e => by rw [n3] at e; rw [n4]; exact h.e2 e⟩
theorem Lin.send {S T : NS} {a b : Int} {cut : Bool} (h : Lin S T a b cut) (hab : a ≠ b) (t : ByteArray) : (nSend T a b t).1 = (nSend S a b t).1 ∧ Lin (nSend S a b t).2 (nSend T a b t).2 a b cut := by
  unfold nSend
  rw [← h.N, ← h.c1, ← h.q1]
  have hne : ¬ (b = a ∧ a = b) := fun h => hab h.2
  split
  · exact ⟨rfl, h⟩
  · split
    · exact ⟨rfl, h⟩
    · split
      · exact ⟨rfl, h⟩
      · rename_i h1 h2 h3
        exact ⟨rfl, rfl, by simp only [qset_eq], by simp only [qset_ne hne]; exact h.q2, h.c1, h.c2, h.sym, h.is, fun e => absurd e h2, fun e => absurd e h2⟩
theorem Lin.deliver {S T : NS} {a b : Int} {cut : Bool} (h : Lin S T a b cut) (hab : a ≠ b) (l g : Bool) : (nDeliver T a b l g).1 = (nDeliver S a b l g).1 ∧ Lin (nDeliver S a b l g).2 (nDeliver T a b l g).2 a b cut := by
  unfold nDeliver
  rw [← h.N, ← h.q1]
  have hne : ¬ (b = a ∧ a = b) := fun h => hab h.2
  split
  · split
    · exact ⟨rfl, h⟩
    · rename_i x r hq
      refine ⟨rfl, ?_⟩
      simp only
      split
      · refine ⟨rfl, by simp only [qset_eq], by simp only [qset_ne hne]; exact h.q2, h.c1, h.c2, h.sym, h.is, fun e => ?_, fun e => ?_⟩
        · have := h.e1 e; rw [hq] at this; cases this
        · have := h.e1 e; rw [hq] at this; cases this
      · exact h
  · exact ⟨rfl, h⟩
theorem Lin.turn {S T : NS} {a b : Int} {cut : Bool} (h : Lin S T a b cut) (hab : a ≠ b) (v : Bool) : (nTurn T a b v).1 = (nTurn S a b v).1 ∧ Lin (nTurn S a b v).2 (nTurn T a b v).2 a b (if (nTurn S a b v).1 = 0 then v else cut) := by
  unfold nTurn
  rw [← h.N, ← h.c1]
  have hne : ¬ (b = a ∧ a = b) := fun h => hab h.2
  have hne' : ¬ (a = b ∧ b = a) := fun h => hab h.1
  split
  · split
    · exact ⟨rfl, h⟩
    · refine ⟨rfl, rfl, ?_, ?_, ?_, ?_, ?_, ?_, ?_, ?_⟩
      · cases v with
        | false => exact h.q1
        | true => simp only [if_true]; rw [qset_ne hne', qset_eq, qset_ne hne', qset_eq]
      · cases v with
        | false => exact h.q2
        | true => simp only [if_true]; rw [qset_eq, qset_eq]
      · simp only; rw [cset_ne hne', cset_eq, cset_ne hne', cset_eq]
      · simp only; rw [cset_eq, cset_eq]
      · simp only; rw [cset_ne hne', cset_eq, cset_eq]
      · simp only [if_true]; rw [cset_ne hne', cset_eq]
      · intro e
        simp only at e
        rw [cset_ne hne', cset_eq] at e
        subst e
        simp only [if_true]
        rw [qset_ne hne', qset_eq]
      · intro e
        simp only at e
        rw [cset_ne hne', cset_eq] at e
        subst e
        simp only [if_true]
        rw [qset_eq]
  · exact ⟨rfl, h⟩
theorem Lin.step {S T : NS} {a b : Int} {cut : Bool} (h : Lin S T a b cut) (hab : a ≠ b) (x : Stp) (ha : x.a = a) (hb : x.b = b) :
    (nDo T x).1 = (nDo S x).1 ∧ Lin (nDo S x).2 (nDo T x).2 a b (cutB cut x.kind (nDo S x).1.err) := by
  subst ha; subst hb
  unfold nDo
  by_cases h0 : x.kind = 0
  · rw [if_pos h0, if_pos h0]
    obtain ⟨e, l⟩ := h.send hab x.text
    refine ⟨by simp only [e], ?_⟩
    simpa [cutB, h0] using l
  · rw [if_neg h0, if_neg h0]
    by_cases h1 : x.kind = 1
    · rw [if_pos h1, if_pos h1]
      obtain ⟨e, l⟩ := h.deliver hab x.lost x.again
      refine ⟨by simp only [e], ?_⟩
      simpa [cutB, h1] using l
    · rw [if_neg h1, if_neg h1]
      by_cases h2 : x.kind = 2
      · rw [if_pos h2, if_pos h2]
        obtain ⟨e, l⟩ := h.turn hab true
        refine ⟨by simp only [e], ?_⟩
        have : cutB cut x.kind (nTurn S x.a x.b true).1 = (if (nTurn S x.a x.b true).1 = 0 then true else cut) := by
          by_cases hz : (nTurn S x.a x.b true).1 = 0
          · simp [cutB, h2, hz]
          · simp [cutB, h2, hz]
        rw [this]
        exact l
      · rw [if_neg h2, if_neg h2]
        obtain ⟨e, l⟩ := h.turn hab false
        refine ⟨by simp only [e], ?_⟩
        have : cutB cut x.kind (nTurn S x.a x.b false).1 = (if (nTurn S x.a x.b false).1 = 0 then false else cut) := by
          by_cases hz : (nTurn S x.a x.b false).1 = 0
          · have b2 : (x.kind == 2) = false := by simpa using h2
            have b0 : (x.kind == 0) = false := by simpa using h0
            have b1 : (x.kind == 1) = false := by simpa using h1
            simp [cutB, b0, b1, b2, hz]
          · have b2 : (x.kind == 2) = false := by simpa using h2
            have bz : ((nTurn S x.a x.b false).1 == 0) = false := by simpa using hz
            rw [if_neg hz]
            simp [cutB, b2, bz]
        rw [this]
        exact l
theorem Lin.on {S T : NS} {a b : Int} {cut : Bool} (h : Lin S T a b cut) (hab : a ≠ b) (x : Stp) (hx : onB x a b = true) :
    (nDo T x).1 = (nDo S x).1 ∧ Lin (nDo S x).2 (nDo T x).2 a b (cutB cut x.kind (nDo S x).1.err) := by
  simp only [onB, Bool.or_eq_true, Bool.and_eq_true, beq_iff_eq] at hx
  rcases hx with ⟨h1, h2⟩ | ⟨h1, h2⟩
  · exact h.step hab x h1 h2
  · obtain ⟨e, l⟩ := h.swap.step (Ne.symm hab) x h1 h2
    exact ⟨e, l.swap⟩
theorem Lin.wait {S T : NS} {a b : Int} {cut : Bool} (h : Lin S T a b cut) : nWait S a b = nWait T a b ∧ nWait S b a = nWait T b a := by
  unfold nWait waitL
  rw [h.N, h.q1, h.q2]
  exact ⟨rfl, rfl⟩
theorem Lin.dead {S T : NS} {a b : Int} (h : Lin S T a b true) : nWait S a b = [] ∧ nWait S b a = [] := by
  have e := h.is.symm
  unfold nWait waitL
  rw [h.e1 e, h.e2 e]
  simp
end Go.Proofs.Ytdgcimjpggjnjaa

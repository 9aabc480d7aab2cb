/- NetHonest: the plain law. -/
import Derived.Test.YtdgcimjpggjnjaaNdo
set_option linter.unusedVariables false
set_option linter.unusedSimpArgs false
namespace Go.Proofs.Ytdgcimjpggjnjaa
open Go.RowKit

abbrev Hs := List (Stp × Rst)
def sentP (a b : Int) (p : Stp × Rst) : Bool := p.1.a == a && p.1.b == b && (p.1.kind == 0 && p.2.err == 0)
def gotP (a b : Int) (p : Stp × Rst) : Bool := p.1.a == a && p.1.b == b && (p.1.kind == 1 && p.2.ok && !p.1.again)
def cS (a b : Int) (h : Hs) : Nat := h.countP (sentP a b)
def cG (a b : Int) (h : Hs) : Nat := h.countP (gotP a b)
def kn (a b : Int) (t : ByteArray) (h : Hs) : Bool := h.any fun p => sentP a b p && decide (p.1.text = t)
theorem cS_snoc (a b : Int) (h : Hs) (p : Stp × Rst) : cS a b (h ++ [p]) = cS a b h + if sentP a b p then 1 else 0 := by
  simp [cS, List.countP_append, List.countP_cons]
theorem cG_snoc (a b : Int) (h : Hs) (p : Stp × Rst) : cG a b (h ++ [p]) = cG a b h + if gotP a b p then 1 else 0 := by
  simp [cG, List.countP_append, List.countP_cons]
theorem kn_snoc (a b : Int) (t : ByteArray) (h : Hs) (p : Stp × Rst) : kn a b t (h ++ [p]) = (kn a b t h || (sentP a b p && decide (p.1.text = t))) := by
  simp [kn]
structure Hon (S : NS) (h : Hs) : Prop where
  le : ∀ a b, cG a b h + (S.q a b).length ≤ cS a b h
  known : ∀ a b, ∀ t ∈ S.q a b, kn a b t h = true
theorem Hon.new (n : Int) : Hon (NS.new n) [] := ⟨fun a b => by simp [cG, cS, NS.new], fun a b t ht => by simp [NS.new] at ht⟩
/-- Nothing is sent, nothing counts as delivered, no queue gains. -/
theorem Hon.less {S S' : NS} {h : Hs} (H : Hon S h) (p : Stp × Rst) (hs : ∀ a b, sentP a b p = false) (hg : ∀ a b, gotP a b p = false) (hq : ∀ a b, (S'.q a b).length ≤ (S.q a b).length ∧ ∀ t ∈ S'.q a b, t ∈ S.q a b) : Hon S' (h ++ [p]) := by
  refine ⟨fun a b => ?_, fun a b t ht => ?_⟩
  · rw [cS_snoc, cG_snoc, hs, hg]
    have := H.le a b
    have := (hq a b).1
    simp; omega
  · rw [kn_snoc, H.known a b t ((hq a b).2 t ht)]; rfl
theorem Hon.turn {S : NS} {h : Hs} (H : Hon S h) (x : Stp) (a b : Int) (v : Bool) (h0 : x.kind ≠ 0) (h1 : x.kind ≠ 1) (r : Rst) : Hon (nTurn S a b v).2 (h ++ [(x, r)]) := by
  refine H.less _ (fun a b => ?_) (fun a b => ?_) (fun x y => ?_)
  · simp [sentP, h0]
  · simp [gotP, h1]
  · unfold nTurn
    split
    · split
      · exact ⟨Nat.le_refl _, fun t h => h⟩
      · cases v with
        | false => exact ⟨Nat.le_refl _, fun t h => h⟩
        | true =>
          simp only [if_true, qset]
          split
          · simp
          · split
            · simp
            · exact ⟨Nat.le_refl _, fun t h => h⟩
    · exact ⟨Nat.le_refl _, fun t h => h⟩
theorem Hon.step {S : NS} {h : Hs} (H : Hon S h) (x : Stp) : Hon (nDo S x).2 (h ++ [(x, (nDo S x).1)]) ∧
    (x.kind = 1 → (nDo S x).1.ok = true → kn x.a x.b (nDo S x).1.text (h ++ [(x, (nDo S x).1)]) = true) := by
  by_cases h0 : x.kind = 0
  · refine ⟨?_, fun h => absurd h0 (by omega)⟩
    unfold nDo
    rw [if_pos h0]
    unfold nSend
    split
    · exact H.less _ (fun a b => by simp [sentP]) (fun a b => by simp [gotP]) (fun a b => ⟨Nat.le_refl _, fun _ h => h⟩)
    · split
      · exact H.less _ (fun a b => by simp [sentP]) (fun a b => by simp [gotP]) (fun a b => ⟨Nat.le_refl _, fun _ h => h⟩)
      · split
        · exact H.less _ (fun a b => by simp [sentP]) (fun a b => by simp [gotP]) (fun a b => ⟨Nat.le_refl _, fun _ h => h⟩)
        · refine ⟨fun a b => ?_, fun a b t ht => ?_⟩
          · rw [cS_snoc, cG_snoc]
            have := H.le a b
            simp only [sentP, gotP, h0, qset]
            by_cases hab : a = x.a ∧ b = x.b
            · obtain ⟨rfl, rfl⟩ := hab
              simp; omega
            · rw [if_neg hab]
              simp; omega
          · rw [kn_snoc]
            simp only [qset] at ht
            by_cases hab : a = x.a ∧ b = x.b
            · rw [if_pos hab] at ht
              obtain ⟨rfl, rfl⟩ := hab
              simp at ht
              rcases ht with ht | ht
              · rw [H.known _ _ t ht]; rfl
              · subst ht; simp [sentP, h0]
            · rw [if_neg hab] at ht
              rw [H.known _ _ t ht]; rfl
  · by_cases h1 : x.kind = 1
    · unfold nDo
      rw [if_neg h0, if_pos h1]
      unfold nDeliver
      split
      · split
        · exact ⟨H.less _ (fun a b => by simp [sentP, h1]) (fun a b => by simp [gotP]) (fun a b => ⟨Nat.le_refl _, fun _ h => h⟩), fun _ h => by simp at h⟩
        · rename_i y r hq
          have hkn := H.known x.a x.b y (by rw [hq]; simp)
          have hsub : ∀ a b, (qset S.q x.a x.b r a b).length ≤ (S.q a b).length ∧ ∀ t ∈ qset S.q x.a x.b r a b, t ∈ S.q a b := by
            intro a b
            simp only [qset]
            by_cases hab : a = x.a ∧ b = x.b
            · rw [if_pos hab]
              obtain ⟨rfl, rfl⟩ := hab
              rw [hq]
              exact ⟨by simp, fun t h => by simp [h]⟩
            · rw [if_neg hab]
              exact ⟨Nat.le_refl _, fun _ h => h⟩
          cases hl : x.lost with
          | true =>
            exact ⟨H.less _ (fun a b => by simp [sentP, h1]) (fun a b => by simp [gotP]) (by simpa using hsub), fun _ h => by simp at h⟩
          | false =>
            refine ⟨?_, fun _ _ => by rw [kn_snoc]; simp [hkn]⟩
            cases hg : x.again with
            | true => exact H.less _ (fun a b => by simp [sentP, h1]) (fun a b => by simp [gotP, hg]) (fun a b => ⟨Nat.le_refl _, fun _ h => h⟩)
            | false =>
              refine ⟨fun a b => ?_, fun a b t ht => ?_⟩
              · rw [cS_snoc, cG_snoc]
                have := H.le a b
                simp only [sentP, gotP, h1, qset, hg]
                by_cases hab : a = x.a ∧ b = x.b
                · obtain ⟨rfl, rfl⟩ := hab
                  rw [hq] at this
                  simp [qset] at this ⊢; omega
                · have hab' : (x.a == a && x.b == b) = false := by
                    simp
                    intro h1 h2
                    exact hab ⟨h1.symm, h2.symm⟩
                  rw [hab']
                  simp [qset, hab]; omega
              · rw [kn_snoc]
                rw [H.known a b t ((hsub a b).2 t (by simpa using ht))]; rfl
      · exact ⟨H.less _ (fun a b => by simp [sentP, h1]) (fun a b => by simp [gotP]) (fun a b => ⟨Nat.le_refl _, fun _ h => h⟩), fun _ h => by simp at h⟩
    · refine ⟨?_, fun h => absurd h h1⟩
      unfold nDo
      rw [if_neg h0, if_neg h1]
      split
      · exact H.turn x _ _ _ h0 h1 _
      · exact H.turn x _ _ _ h0 h1 _
end Go.Proofs.Ytdgcimjpggjnjaa

/- The reference of chapter 36: another line in memory. -/
import Derived.Test.YtdjaofkbgkifkaaE35
set_option linter.unusedVariables false
set_option linter.unusedSimpArgs false
namespace Go.Proofs.Ytdjaofkbgkifkaa
open Go.RowKit

theorem RefAt.role {w : World} {ρ ρ' : Nat → RR} {g : Nat} {S : ES} {vU vS vR vP : Value} {vr : Nat → Value} {vT vM : Nat → Nat → Value} {mz : Nat → Nat → List (Value × EM)}
    (h : RefAt w ρ g S vU vS vR vP vr vT vM mz) (hρ : ∀ k, k < w.heap.size → ρ k ≠ .other → ρ' k = ρ k) : RefAt w ρ' g S vU vS vR vP vr vT vM mz := by
  have lt : ∀ {k : Nat} {o : Obj}, w.heap[k]? = some o → k < w.heap.size := fun ho => (Array.getElem?_eq_some_iff.1 ho).1
  constructor
  · exact h.obj
  · exact h.un
  · exact h.us
  · exact h.re
  · exact h.out
  · exact h.row
  · exact h.tr
  · exact h.ms
  · exact h.mq
  · exact fun a b ha hb p hp => (h.im a b ha hb p hp).keep (Nat.le_refl _) (fun _ _ _ => rfl) (fun k hk hi => by rw [hρ k hk (by rw [hi]; simp), hi])
  · exact h.dg
  · rw [hρ g (lt h.obj) (by rw [h.rg]; simp)]; exact h.rg
  · intro k hk; rw [hρ k (h.un.lt hk) (by rw [h.ru k hk]; simp)]; exact h.ru k hk
  · intro k hk; rw [hρ k (h.us.lt hk) (by rw [h.rs k hk]; simp)]; exact h.rs k hk
  · intro k hk; rw [hρ k (h.re.lt hk) (by rw [h.rr k hk]; simp)]; exact h.rr k hk
  · intro k hk; rw [hρ k (h.out.lt hk) (by rw [h.ro k hk]; simp)]; exact h.ro k hk
  · intro a ha k hk; rw [hρ k ((h.row a ha).lt hk) (by rw [h.rw_ a ha k hk]; simp)]; exact h.rw_ a ha k hk
  · intro a b ha hb k hk; rw [hρ k ((h.tr a b ha hb).lt hk) (by rw [h.rt a b ha hb k hk]; simp)]; exact h.rt a b ha hb k hk
  · intro a b ha hb k hk; rw [hρ k ((h.ms a b ha hb).lt hk) (by rw [h.rm a b ha hb k hk]; simp)]; exact h.rm a b ha hb k hk
def nupd {α : Type} (f : Nat → Nat → α) (a b : Nat) (v : α) (x y : Nat) : α := if x = a ∧ y = b then v else f x y
theorem nupd_same {α : Type} (f : Nat → Nat → α) (a b : Nat) (v : α) : nupd f a b v a b = v := by simp [nupd]
theorem nupd_other {α : Type} (f : Nat → Nat → α) (a b : Nat) (v : α) (x y : Nat) (h : ¬ (x = a ∧ y = b)) : nupd f a b v x y = f x y := by simp only [nupd, if_neg h]
theorem flat_upd {α : Type} (f f' : α → List Value) (size : Nat) (hf : ∀ x, (f x).length = size) (j : Nat) (u : Value) (hj : j < size) : ∀ (l : List α) (i : Nat) (x : α), l[i]? = some x → (∀ k y, l[k]? = some y → k ≠ i → f' y = f y) → f' x = (f x).set j u → (l.flatMap f).set (i * size + j) u = l.flatMap f'
  | [], i, x, hi, _, _ => by simp at hi
  | y :: l, 0, x, hi, ho, hx => by
    simp at hi; subst hi
    have e : l.flatMap f = l.flatMap f' := by
      have : ∀ z ∈ l, f' z = f z := fun z hz => by
        obtain ⟨k, hk, rfl⟩ := List.mem_iff_getElem.1 hz
        exact ho (k + 1) _ (by rw [List.getElem?_cons_succ]; exact List.getElem?_eq_getElem hk) (by omega)
      clear ho hx
      induction l with
      | nil => rfl
      | cons z l ih => rw [List.flatMap_cons, List.flatMap_cons, this z (by simp), ih (fun q hq => this q (by simp [hq]))]
    rw [List.flatMap_cons, List.flatMap_cons, hx, List.set_append_left _ _ (by rw [hf]; omega), e]
    simp
  | y :: l, i + 1, x, hi, ho, hx => by
    have hi' : l[i]? = some x := by simpa using hi
    have e : (i + 1) * size + j - size = i * size + j := by rw [Nat.add_mul]; omega
    rw [List.flatMap_cons, List.flatMap_cons, List.set_append_right _ _ (by rw [hf, Nat.add_mul]; omega), hf, e, flat_upd f f' size hf j u hj l i x hi' (fun k z hz hk => ho (k + 1) z (by simpa using hz) (by omega)) hx]
    rw [ho 0 y rfl (by omega)]
/-- A store of one cell of a pair. -/
theorem Row.putR {f f' : Nat → List Value} {size : Nat} (hf : ∀ x, (f x).length = size) {w : World} {g off n cap m : Nat} (h : Row w size (.slice (some ⟨g, off, none⟩) n cap) ((List.range m).flatMap f)) {b j : Nat} (hb : b < m) (hj : j < size) {u : Value}
    (ho : ∀ y, y ≠ b → f' y = f y) (hx : f' b = (f b).set j u) : Row (w.setCell ⟨g, off + b * size + j, none⟩ u) size (.slice (some ⟨g, off, none⟩) n cap) ((List.range m).flatMap f') := by
  have hi : (List.range m)[b]? = some b := by rw [List.getElem?_range hb]
  have hlt : b * size + j < ((List.range m).flatMap f).length := by
    rw [flat_length f size hf, List.length_range]
    have : (b + 1) * size ≤ m * size := Nat.mul_le_mul_right _ hb
    rw [Nat.add_mul] at this
    omega
  have := h.setElem hlt u
  rw [flat_upd f f' size hf j u hj (List.range m) b b hi (fun k y hy hk => ho y (by
    have hk' : k < m := by have := (List.getElem?_eq_some_iff.1 hy).1; rwa [List.length_range] at this
    rw [List.getElem?_range hk'] at hy
    cases hy; exact hk)) hx, ← Nat.add_assoc] at this
  exact this
/-- Another line. -/
theorem RefAt.putLine {w w' : World} {ρ : Nat → RR} {g : Nat} {S : ES} {vU vS vR vP : Value} {vr : Nat → Value} {vT vM : Nat → Nat → Value} {mz : Nat → Nat → List (Value × EM)}
    (h : RefAt w ρ g S vU vS vR vP vr vT vM mz) {a b : Nat} (ha : a < S.acc.length) (hb : b < S.acc.length) (hne : a ≠ b) {l : EL} {t' M' : Value} {z' : List (Value × EM)}
    (hrow : Row w' 4 (vr a) ((List.range S.acc.length).flatMap (pcells (S.putL a b l) (nupd vT a b t') (nupd vM a b M') a))) (htr : Row w' 1 t' (l.all.flatMap icell))
    (hms : Row w' 4 M' (z'.flatMap qcells)) (hmq : z'.map (·.2) = l.ms) (him : ∀ q ∈ z', RdR ρ w' q.1 (q.2.tr l.all)) (hsz : w.heap.size ≤ w'.heap.size)
    (hk : ∀ k, k < w.heap.size → ρ k ≠ .row a → ρ k ≠ .tr a b → ρ k ≠ .ms a b → ρ k ≠ .other → w'.heap[k]? = w.heap[k]?)
    (ht : ∀ k, rowBlk t' = some k → ρ k = .tr a b) (hM : ∀ k, rowBlk M' = some k → ρ k = .ms a b) :
    RefAt w' ρ g (S.putL a b l) vU vS vR vP vr (nupd vT a b t') (nupd vM a b M') (nupd mz a b z') := by
  have hh : ∀ {k : Nat} {o : Obj}, w.heap[k]? = some o → ρ k ≠ .row a → ρ k ≠ .tr a b → ρ k ≠ .ms a b → ρ k ≠ .other → w'.heap[k]? = some o := fun ho h1 h2 h3 h4 => by rw [hk _ (Array.getElem?_eq_some_iff.1 ho).1 h1 h2 h3 h4]; exact ho
  have rne : ∀ {x y : Nat}, ¬ (x = a ∧ y = b) → RR.tr x y ≠ .tr a b ∧ RR.ms x y ≠ .ms a b := by
    intro x y hxy
    refine ⟨?_, ?_⟩ <;> (intro e; cases e; exact hxy ⟨rfl, rfl⟩)
  have ln : ∀ {x y : Nat}, ¬ (x = a ∧ y = b) → (S.putL a b l).ln x y = S.ln x y := fun {x y} hxy => ES.putL_other _ _ _ _ _ _ (by
    by_cases e : x = a
    · exact .inr (fun e2 => hxy ⟨e, by omega⟩)
    · exact .inl (by omega))
  constructor
  · exact hh h.obj (by rw [h.rg]; simp) (by rw [h.rg]; simp) (by rw [h.rg]; simp) (by rw [h.rg]; simp)
  · exact h.un.kept (fun k hb => hk k (h.un.lt hb) (by rw [h.ru k hb]; simp) (by rw [h.ru k hb]; simp) (by rw [h.ru k hb]; simp) (by rw [h.ru k hb]; simp))
  · exact h.us.kept (fun k hb => hk k (h.us.lt hb) (by rw [h.rs k hb]; simp) (by rw [h.rs k hb]; simp) (by rw [h.rs k hb]; simp) (by rw [h.rs k hb]; simp))
  · exact h.re.kept (fun k hb => hk k (h.re.lt hb) (by rw [h.rr k hb]; simp) (by rw [h.rr k hb]; simp) (by rw [h.rr k hb]; simp) (by rw [h.rr k hb]; simp))
  · exact h.out.kept (fun k hb => hk k (h.out.lt hb) (by rw [h.ro k hb]; simp) (by rw [h.ro k hb]; simp) (by rw [h.ro k hb]; simp) (by rw [h.ro k hb]; simp))
  · intro x hx
    by_cases e : x = a
    · subst e; exact hrow
    · have ep : pcells (S.putL a b l) (nupd vT a b t') (nupd vM a b M') x = pcells S vT vM x := by
        funext y
        have hxy : ¬ (x = a ∧ y = b) := fun h => e h.1
        unfold pcells
        rw [ln hxy, nupd_other _ _ _ _ _ _ hxy, nupd_other _ _ _ _ _ _ hxy]
      rw [ep]
      refine (h.row x hx).kept (fun k hb => hk k ((h.row x hx).lt hb) (by rw [h.rw_ x hx k hb]; intro e'; cases e'; exact e rfl) (by rw [h.rw_ x hx k hb]; simp) (by rw [h.rw_ x hx k hb]; simp) (by rw [h.rw_ x hx k hb]; simp))
  · intro x y hx hy
    by_cases hxy : x = a ∧ y = b
    · obtain ⟨rfl, rfl⟩ := hxy
      rw [nupd_same, ES.putL_same]; exact htr
    · rw [nupd_other _ _ _ _ _ _ hxy, ln hxy]
      exact (h.tr x y hx hy).kept (fun k hb => hk k ((h.tr x y hx hy).lt hb) (by rw [h.rt x y hx hy k hb]; simp) (by rw [h.rt x y hx hy k hb]; exact (rne hxy).1) (by rw [h.rt x y hx hy k hb]; simp) (by rw [h.rt x y hx hy k hb]; simp))
  · intro x y hx hy
    by_cases hxy : x = a ∧ y = b
    · obtain ⟨rfl, rfl⟩ := hxy
      rw [nupd_same, nupd_same]; exact hms
    · rw [nupd_other _ _ _ _ _ _ hxy, nupd_other _ _ _ _ _ _ hxy]
      exact (h.ms x y hx hy).kept (fun k hb => hk k ((h.ms x y hx hy).lt hb) (by rw [h.rm x y hx hy k hb]; simp) (by rw [h.rm x y hx hy k hb]; simp) (by rw [h.rm x y hx hy k hb]; exact (rne hxy).2) (by rw [h.rm x y hx hy k hb]; simp))
  · intro x y hx hy
    by_cases hxy : x = a ∧ y = b
    · obtain ⟨rfl, rfl⟩ := hxy
      rw [nupd_same, ES.putL_same]; exact hmq
    · rw [nupd_other _ _ _ _ _ _ hxy, ln hxy]; exact h.mq x y hx hy
  · intro x y hx hy
    by_cases hxy : x = a ∧ y = b
    · obtain ⟨rfl, rfl⟩ := hxy
      rw [nupd_same, ES.putL_same]; exact him
    · rw [nupd_other _ _ _ _ _ _ hxy, ln hxy]
      exact fun z hz => (h.im x y hx hy z hz).keep hsz (fun k hb hi => hk k hb (by rw [hi]; simp) (by rw [hi]; simp) (by rw [hi]; simp) (by rw [hi]; simp)) (fun _ _ h => h)
  · intro x
    rw [ln (by omega)]; exact h.dg x
  · exact h.rg
  · exact h.ru
  · exact h.rs
  · exact h.rr
  · exact h.ro
  · exact h.rw_
  · intro x y hx hy
    by_cases hxy : x = a ∧ y = b
    · obtain ⟨rfl, rfl⟩ := hxy
      rw [nupd_same]; exact ht
    · rw [nupd_other _ _ _ _ _ _ hxy]; exact h.rt x y hx hy
  · intro x y hx hy
    by_cases hxy : x = a ∧ y = b
    · obtain ⟨rfl, rfl⟩ := hxy
      rw [nupd_same]; exact hM
    · rw [nupd_other _ _ _ _ _ _ hxy]; exact h.rm x y hx hy
end Go.Proofs.Ytdjaofkbgkifkaa

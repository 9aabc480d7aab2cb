/- Stores into the elements of a row. -/
import Derived.Test.YtdjaofkbgkifkaaRdl
set_option linter.unusedVariables false
set_option linter.unusedSimpArgs false
namespace Go.Proofs.Ytdjaofkbgkifkaa
open Go.RowKit

theorem Row.setElem {w : World} {size g off n cap : Nat} {xs : List Value} (h : Row w size (.slice (some ⟨g, off, none⟩) n cap) xs) {p : Nat} (hp : p < xs.length) (u : Value) :
    Row (w.setCell ⟨g, off + p, none⟩ u) size (.slice (some ⟨g, off, none⟩) n cap) (xs.set p u) := by
  obtain ⟨A, n', cap', he, h1, h2, h3, h4⟩ := h
  cases he
  refine ⟨_, _, _, rfl, by rw [List.length_set]; exact h1, h2, h3, ?_⟩
  rcases h4 with rfl | ⟨g', off', cur, T, he, h5, h6, h7⟩
  · exact .inl rfl
  · cases he
    refine .inr ⟨g, off, _, T, rfl, heap_setCell_same w g (off + p) cur T u h5, by simpa using h6, ?_⟩
    rw [Array.toList_setIfInBounds, List.drop_set, if_neg (by omega), List.take_set, h7]
    congr 1
    omega
theorem flat_set {α : Type} (f : α → List Value) (size : Nat) (hf : ∀ x, (f x).length = size) : ∀ (l : List α) (i j : Nat) (x x' : α) (u : Value), l[i]? = some x → j < size → f x' = (f x).set j u → (l.flatMap f).set (i * size + j) u = (l.set i x').flatMap f
  | [], i, j, x, x', u, hi, _, _ => by simp at hi
  | y :: l, 0, j, x, x', u, hi, hj, hx => by
    simp at hi; subst hi
    rw [List.flatMap_cons, List.set_cons_zero, List.flatMap_cons, hx, List.set_append_left _ _ (by rw [hf]; omega)]
    simp
  | y :: l, i + 1, j, x, x', u, hi, hj, hx => by
    have hi' : l[i]? = some x := by simpa using hi
    have e : (i + 1) * size + j - size = i * size + j := by rw [Nat.add_mul]; omega
    rw [List.flatMap_cons, List.set_cons_succ, List.flatMap_cons, List.set_append_right _ _ (by rw [hf, Nat.add_mul]; omega), hf, e, flat_set f size hf l i j x x' u hi' hj hx]
/-- A store of one cell of an element. -/
theorem Row.put {α : Type} {f : α → List Value} {size : Nat} (hf : ∀ x, (f x).length = size) {w : World} {g off n cap : Nat} {l : List α} (h : Row w size (.slice (some ⟨g, off, none⟩) n cap) (l.flatMap f)) {i j : Nat} {x x' : α} {u : Value}
    (hi : l[i]? = some x) (hj : j < size) (hx : f x' = (f x).set j u) : Row (w.setCell ⟨g, off + i * size + j, none⟩ u) size (.slice (some ⟨g, off, none⟩) n cap) ((l.set i x').flatMap f) := by
  have hk : i < l.length := (List.getElem?_eq_some_iff.1 hi).1
  have hlt : i * size + j < (l.flatMap f).length := by
    rw [flat_length f size hf]
    have : (i + 1) * size ≤ l.length * size := Nat.mul_le_mul_right _ hk
    rw [Nat.add_mul] at this
    omega
  have := h.setElem hlt u
  rw [flat_set f size hf l i j x x' u hi hj hx, ← Nat.add_assoc] at this
  exact this
end Go.Proofs.Ytdjaofkbgkifkaa

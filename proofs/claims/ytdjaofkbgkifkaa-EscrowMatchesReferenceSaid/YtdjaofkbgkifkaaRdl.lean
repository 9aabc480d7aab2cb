/- Rows of elements of several cells, read as lists. -/
import Derived.Test.YtdjaofkbgkifkaaRow
import Derived.Test.YtdjaofkbgkifkaaOpen
set_option linter.unusedVariables false
set_option linter.unusedSimpArgs false
namespace Go.Proofs.Ytdjaofkbgkifkaa
open Go.RowKit

theorem flat_length {α : Type} (f : α → List Value) (size : Nat) (hf : ∀ x, (f x).length = size) : ∀ (l : List α), (l.flatMap f).length = l.length * size
  | [] => by simp
  | x :: l => by rw [List.flatMap_cons, List.length_append, hf, flat_length f size hf l, List.length_cons, Nat.add_mul]; omega
theorem flat_get {α : Type} (f : α → List Value) (size : Nat) (hf : ∀ x, (f x).length = size) : ∀ (l : List α) (j : Nat) (x : α) (i : Nat) (u : Value), l[j]? = some x → (f x)[i]? = some u → (l.flatMap f)[j * size + i]? = some u
  | [], j, x, i, u, hj, hu => by simp at hj
  | y :: l, 0, x, i, u, hj, hu => by
    simp at hj; subst hj
    have : i < (f y).length := (List.getElem?_eq_some_iff.1 hu).1
    rw [List.flatMap_cons, List.getElem?_append_left (by omega)]
    simpa using hu
  | y :: l, j + 1, x, i, u, hj, hu => by
    have hj' : l[j]? = some x := by simpa using hj
    rw [List.flatMap_cons, List.getElem?_append_right (by rw [hf, Nat.add_mul]; omega), hf]
    have e : (j + 1) * size + i - size = j * size + i := by rw [Nat.add_mul]; omega
    rw [e]
    exact flat_get f size hf l j x i u hj' hu
theorem Row.rdL {α : Type} (f : α → List Value) {w : World} {size : Nat} {v : Value} {xs : List α} (hf : ∀ x, (f x).length = size) (hs : 0 < size) (h : Row w size v (xs.flatMap f)) (hl : xs.length ≤ 140737488355328) : RdL f size w v xs := by
  obtain ⟨A, n, cap, rfl, hn⟩ := h.form
  have hn' : n = xs.length := by rw [flat_length f size hf] at hn; exact (Nat.eq_of_mul_eq_mul_right hs hn).symm
  refine ⟨A, n, cap, rfl, hn', by omega, fun h0 => ?_⟩
  obtain ⟨g, off, rfl⟩ : ∃ g off, A = some ⟨g, off, none⟩ := by
    obtain ⟨A', n', cap', he, h1, h2, h3, h4⟩ := h
    cases he
    rcases h4 with h4 | ⟨g, off, cur, T, rfl, _⟩
    · omega
    · exact ⟨g, off, rfl⟩
  refine ⟨g, off, rfl, fun j x hj i u hu => ?_⟩
  obtain ⟨a, ha, hc⟩ := h.cell (j * size + i) u (flat_get f size hf xs j x i u hj hu)
  cases ha
  have e : (⟨g, off, none⟩ : Addr).add (j * size + i) = ⟨g, off + j * size + i, none⟩ := by
    unfold Addr.add; split
    · simp_all
    · simp [Nat.add_assoc]
  rwa [e] at hc
theorem RdL.fr0 {α : Type} {f : α → List Value} {w w' : World} {size : Nat} {v : Value} {xs : List α} (h : RdL f size w v xs) (hf : Fr None' w w') : RdL f size w' v xs := by
  obtain ⟨A, n, cap, rfl, hn, hl, h0⟩ := h
  refine ⟨A, n, cap, rfl, hn, hl, fun hp => ?_⟩
  obtain ⟨g, off, rfl, hc⟩ := h0 hp
  exact ⟨g, off, rfl, fun j x hj i u hu => hf.cell (hc j x hj i u hu) (fun h => h)⟩
theorem reads_row {w : World} {b : Nat} {cs : Array Value} {T : TypeId} (h : w.heap[b]? = some (.cells cs T (0, 0))) : ReadsAs w (some ⟨b, 0, none⟩) cs.toList := by
  intro j u hj
  refine ⟨_, rfl, ?_⟩
  have e : (⟨b, 0, none⟩ : Addr).add j = ⟨b, j, none⟩ := by unfold Addr.add; split <;> simp_all
  rw [e, cell_of_row w b _ cs T (0, 0) h]
  simpa using hj
end Go.Proofs.Ytdjaofkbgkifkaa

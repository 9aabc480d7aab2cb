/- Arguments: a slice whose elements are of whatever type, read as a list. -/
import Derived.WalkKit
import Derived.ProofKit
import Derived.OpenShut
import Derived.ShutString
import Derived.Deep.Slices
import Derived.SizedLaws
set_option linter.unusedVariables false
set_option linter.unusedSimpArgs false
namespace Go.Proofs.Ytdjaofkbgkifkaa
open Go.RowKit Go.ChangeShapes Go.WideShapes

/-- A slice reads as a list; f: an element's cells, size of them. -/
def RdL {α : Type} (f : α → List Value) (size : Nat) (w : World) (v : Value) (xs : List α) : Prop :=
  ∃ A n cap, v = .slice A n cap ∧ n = xs.length ∧ n ≤ 140737488355328 ∧ (0 < n → ∃ g off, A = some ⟨g, off, none⟩ ∧
    ∀ (j : Nat) (x : α), xs[j]? = some x → ∀ (i : Nat) (u : Value), (f x)[i]? = some u → w.cell? ⟨g, off + j * size + i, none⟩ = some u)

theorem open_list {H : Type} {enc : TypeId × Value → H} {P : Program} {W : World} {t e : TypeId} {v : Value} {d : DataW H} {ps : List MemPlace} {r : Reach} {b0 : Nat} (size bytes : Nat) {α : Type} [Inhabited α] (f : α → List Value) (ok : α → Prop)
    (ht : P.underlying t = some (.slice e)) (hc : P.cellsOf e = size) (hs : 0 < size) (hby : P.bytesOf e = bytes) (hb0 : 0 < bytes)
    (helem : ∀ fuel cs' x, DataW.trod enc P W 0 (fun _ => true) true fuel e cs' = some x → ∃ a, cs' = f a ∧ ok a)
    (hval : Value.okWide P W r b0 t v) (h : DataW.Trod enc P W 0 (fun _ => true) true t v d ps) (hz : (d.weights P t).all (· ≤ reachBytes) = true) :
    ∃ xs : List α, RdL f size W v xs ∧ ∀ x ∈ xs, ok x := by
  obtain ⟨A, n, cap, rfl⟩ := okWide_slice ht hval
  obtain ⟨fuel, hf⟩ := h
  rcases Deep.open_slice ht hf with ⟨hcs, _⟩ | ⟨a, len, cap', m, n', D, Pl, hcs, hb, hl, hm, hmm, hx, hel⟩
  · simp [Value.cells] at hcs
    obtain ⟨rfl, rfl, rfl⟩ := hcs
    exact ⟨[], ⟨none, 0, 0, rfl, rfl, by omega, fun h => by omega⟩, by simp⟩
  · simp [Value.cells] at hcs
    obtain ⟨rfl, rfl, rfl⟩ := hcs
    simp only [if_true] at hmm
    subst hmm
    simp only [Prod.mk.injEq] at hx
    obtain ⟨rfl, rfl⟩ := hx
    have hlen : n ≤ 140737488355328 := by
      simp only [DataW.weights, ht, List.all_cons, Bool.and_eq_true, decide_eq_true_eq] at hz
      have h1 := hz.1
      simp only [List.length_map, List.length_range, hby] at h1
      have h2 : (n + (m - n)) * 1 ≤ (n + (m - n)) * bytes := Nat.mul_le_mul_left _ hb0
      have h3 : reachBytes ≤ 140737488355328 := by decide
      omega
    obtain ⟨X, hX⟩ := Deep.choose_lt (α := α) (n := n) (p := fun i x => ok x ∧ W.cells? 0 (a.add (i * size)) size = some (f x)) (fun i hi => by
      obtain ⟨cs', h1, h2⟩ := hel i (by omega)
      rw [hc] at h1
      obtain ⟨x, rfl, hok⟩ := helem _ _ _ h2
      exact ⟨x, hok, h1⟩)
    refine ⟨(List.range n).map X, ⟨some a, n, m, rfl, by simp, hlen, fun hp => ?_⟩, ?_⟩
    · have hsp : a.spot = none := by
        obtain ⟨_, hl0, h0⟩ := World.cells?_some (hX 0 hp).2
        have h1 := h0 0 hs
        rw [List.getElem?_eq_getElem (by rw [hl0]; exact hs)] at h1
        simp only [Nat.zero_mul] at h1
        have e0 : (a.add 0).add 0 = a := by simp [Addr.add]
        rw [e0] at h1
        unfold World.cell? at h1
        split at h1
        · cases hsp : a.spot with
          | none => rfl
          | some _ => simp [hsp] at h1
        · cases h1
      refine ⟨a.block, a.off, by rw [← hsp], fun j x hj i u hu => ?_⟩
      rw [List.getElem?_map] at hj
      have hjn : j < n := by
        rcases Nat.lt_or_ge j n with h | h
        · exact h
        · rw [List.getElem?_eq_none (by simpa using h)] at hj; cases hj
      rw [List.getElem?_range hjn] at hj
      cases hj
      obtain ⟨_, hl0, h0⟩ := World.cells?_some (hX j hjn).2
      have hi : i < size := by rw [← hl0]; exact (List.getElem?_eq_some_iff.1 hu).1
      have h1 := h0 i hi
      rw [hu] at h1
      have ea : (a.add (j * size)).add i = ⟨a.block, a.off + j * size + i, none⟩ := by
        rw [Deep.add_add]
        obtain ⟨b, o, s⟩ := a
        simp only at hsp
        subst hsp
        unfold Addr.add
        split
        · rename_i h; simp only [Addr.mk.injEq, and_true, true_and]; omega
        · simp [Nat.add_assoc]
      rwa [ea] at h1
    · intro x hx
      simp only [List.mem_map, List.mem_range] at hx
      obtain ⟨i, hi, rfl⟩ := hx
      exact (hX i hi).1
/-- Texts. -/
theorem elem_str {H : Type} {enc : TypeId × Value → H} {P : Program} {W : World} {e : TypeId} (he : P.underlying e = some .string) (fuel : Nat) (cs' : List Value) (x : DataW H × List MemPlace) (h : DataW.trod enc P W 0 (fun _ => true) true fuel e cs' = some x) :
    ∃ a : ByteArray, cs' = [.string a] ∧ a.size ≤ maxLen := by
  obtain ⟨s, rfl, _, hs⟩ := DataW.trod_string he h
  exact ⟨s, rfl, hs⟩
theorem elem_bool {H : Type} {enc : TypeId × Value → H} {P : Program} {W : World} {e : TypeId} (he : P.underlying e = some .bool) (fuel : Nat) (cs' : List Value) (x : DataW H × List MemPlace) (h : DataW.trod enc P W 0 (fun _ => true) true fuel e cs' = some x) :
    ∃ a : Bool, cs' = [.bool a] ∧ True := by
  obtain ⟨s, rfl, _⟩ := DataW.trod_bool he h
  exact ⟨s, rfl, trivial⟩
theorem elem_int {H : Type} {enc : TypeId × Value → H} {P : Program} {W : World} {e : TypeId} {k : IntKind} (he : P.underlying e = some (.int k)) (fuel : Nat) (cs' : List Value) (x : DataW H × List MemPlace) (h : DataW.trod enc P W 0 (fun _ => true) true fuel e cs' = some x) :
    ∃ a : Int, cs' = [.int k a] ∧ (Lit.int k a).wf = true := by
  obtain ⟨s, rfl, _, hs⟩ := DataW.trod_int he h
  exact ⟨s, rfl, hs⟩
/-- The weights of one argument. -/
theorem weights_of {H : Type} {P : Program} {ts : List TypeId} {ds : List (DataW H)} (h : (DataW.weightsEach P ts ds).all (· ≤ reachBytes) = true) {j : Nat} {t : TypeId} {d : DataW H} (ht : ts[j]? = some t) (hd : ds[j]? = some d) :
    (d.weights P t).all (· ≤ reachBytes) = true :=
  List.all_eq_true.2 fun n hn => List.all_eq_true.1 h n (DataW.weights_mem_each ht hd n hn)
end Go.Proofs.Ytdjaofkbgkifkaa

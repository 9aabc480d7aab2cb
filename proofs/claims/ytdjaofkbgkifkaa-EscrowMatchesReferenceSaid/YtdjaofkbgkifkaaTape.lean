/- A step of a range over a map leaves the tape as it is. -/
import Derived.Test.YtdjaofkbgkifkaaRow
import Derived.Laws.IdiomRangeMap
set_option linter.unusedVariables false
set_option linter.unusedSimpArgs false
namespace Go.Proofs.Ytdjaofkbgkifkaa
open Go.RowKit

/-- A computation that leaves the tape as it is. -/
def KT (P : Program) {α : Type} (m : Sem α) : Prop := ∀ w v w', m.run P w = .ok v w' → w'.tape = w.tape
theorem KT.bind {P : Program} {α β : Type} {m : Sem α} {f : α → Sem β} (h1 : KT P m) (h2 : ∀ a, KT P (f a)) : KT P (m >>= f) := by
  intro w v w' h
  rw [Sem.run_bind] at h
  cases hm : m.run P w with
  | ok a w1 =>
    rw [hm] at h
    exact (h2 a w1 v w' h).trans (h1 w a w1 hm)
  | _ => rw [hm] at h; cases h
theorem KT.pure {P : Program} {α : Type} (a : α) : KT P (pure a : Sem α) := by
  intro w v w' h
  rw [Sem.run_pure] at h
  cases h; rfl
theorem KT.choose {P : Program} (q : Question) : KT P (choose q) := by
  intro w v w' h
  rw [run_choose_drew] at h
  split at h
  · cases h; rfl
  · cases h; rfl
theorem KT.getObj {P : Program} (r : Nat) : KT P (getObj r) := by
  intro w v w' h
  simp only [Go.getObj, Sem.run] at h
  split at h
  all_goals first | (cases h; rfl) | cases h
theorem KT.setObj {P : Program} (r : Nat) (o : Obj) : KT P (setObj r o) := by
  intro w v w' h
  simp only [Go.setObj, Sem.run] at h
  split at h
  all_goals first | (cases h; rfl) | cases h
theorem KT.stuck {P : Program} {α : Type} (x : String) : KT P (stuck x : Sem α) := by
  intro w v w' h
  simp [Go.stuck, Sem.run] at h
theorem KT.unsupported {P : Program} {α : Type} (x : Unsupported) : KT P (unsupported x : Sem α) := by
  intro w v w' h
  simp [Go.unsupported, Sem.run] at h
theorem KT.next {P : Program} (v : Value) (ty : TypeId) : KT P (Instr.next v false ty) := by
  unfold Instr.next
  repeat' (first | exact KT.pure _ | exact KT.stuck _ | exact KT.unsupported _ | refine KT.bind (KT.getObj _) (fun _ => ?_) | refine KT.bind (KT.choose _) (fun _ => ?_) | refine KT.bind (KT.setObj _ _) (fun _ => ?_) | split | refine KT.bind ?_ (fun _ => ?_))
end Go.Proofs.Ytdjaofkbgkifkaa

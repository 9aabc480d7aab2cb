/- Package escrow: another queue in memory; Deliver where nothing is to be delivered. -/
import Derived.Test.YtdjaofkbgkifkaaE10
set_option linter.unusedVariables false
set_option linter.unusedSimpArgs false
namespace Go.Proofs.Ytdjaofkbgkifkaa
open Go.RowKit

theorem upd2_self {α : Type} (f : Int → Int → α) (a b : Int) : upd2 f a b (f a b) = f := by
  funext x y
  unfold upd2
  split
  · rename_i h; rw [h.1, h.2]
  · rfl
theorem EscAt.cutRole {w : World} {ρ : Nat → Role} {g : Nat} {S : ES} {vA : Value} {mb : Nat} {L : List WE} {lk : Nat} {lb : Int → Int → Nat} {vT vM : Int → Int → Value} {mz : Int → Int → List (Value × EM)}
    (h : EscAt w ρ g S vA mb L lk lb vT vM mz) : ∃ ρ', EscAt w ρ' g S vA mb L lk lb vT vM mz ∧ (∀ k, ρ' k ≠ .other → ρ k ≠ .other) ∧ (∀ k, w.heap.size ≤ k → ρ' k = .other) := by
  refine ⟨fun k => if k < w.heap.size then ρ k else .other, h.role (fun k hk _ => by simp only [if_pos hk]), fun k hk => ?_, fun k hk => by simp only [if_neg (show ¬ k < w.heap.size by omega)]⟩
  simp only [] at hk
  split at hk
  · exact hk
  · exact absurd rfl hk
theorem EscAt.putQ {w w3 : World} {ρ : Nat → Role} {g : Nat} {S : ES} {vA : Value} {mb : Nat} {L : List WE} {lk : Nat} {lb : Int → Int → Nat} {vT vM : Int → Int → Value} {mz : Int → Int → List (Value × EM)} {v3 : Value} {z' : List (Value × EM)} {ms' : List EM}
    (h : EscAt w ρ g S vA mb L lk lb vT vM mz) (hcut : ∀ k, w.heap.size ≤ k → ρ k = .other) {a b : Int} (hp : pairB S.acc.length a b = true)
    (hr3 : Row w3 4 v3 (z'.flatMap mcells)) (hq : z'.map (·.2) = ms') (him : ∀ q ∈ z', RdI ρ w q.1 (q.2.tr (S.ln a b).all)) (hb3 : ∀ k, rowBlk v3 = some k → rowBlk (vM a b) = some k ∨ (w.heap.size ≤ k ∧ k < w3.heap.size))
    (hl3 : w3.heap[lb a b]? = some (.cells #[vT a b, .int .i64 ((S.ln a b).all.length : Int), .int .i64 ((S.ln a b).rcv : Int), v3] 109)) (hf3 : Fr (fun k => k = lb a b ∨ rowBlk (vM a b) = some k) w w3) :
    ∃ ρ', EscAt w3 ρ' g (eNext S a b ms') vA mb L lk lb vT (upd2 vM a b v3) (upd2 mz a b z') ∧ (∀ k, k < w.heap.size → ρ' k = ρ k) ∧ (∀ k, w3.heap.size ≤ k → ρ' k = .other) ∧ (∀ k, ρ k = .imm → w3.heap[k]? = w.heap[k]?) := by
  have hL := h.rl a b hp
  have hM := h.rs a b hp
  obtain ⟨ρ', hρ⟩ : ∃ ρ' : Nat → Role, ρ' = fun k => if k < w.heap.size then ρ k else if k < w3.heap.size then .ms a b else .other := ⟨_, rfl⟩
  have r1 : ∀ k, k < w.heap.size → ρ' k = ρ k := fun k hk => by rw [hρ]; simp only [if_pos hk]
  have r3 : ∀ k, w.heap.size ≤ k → k < w3.heap.size → ρ' k = .ms a b := fun k h1 h2 => by rw [hρ]; simp only [if_neg (show ¬ k < w.heap.size by omega), if_pos h2]
  have r4 : ∀ k, w3.heap.size ≤ k → ρ' k = .other := fun k h1 => by have := hf3.size; rw [hρ]; simp only [if_neg (show ¬ k < w.heap.size by omega), if_neg (show ¬ k < w3.heap.size by omega)]
  have E1 := h.role (ρ' := ρ') (fun k hk _ => r1 k hk)
  have hb3' : ∀ k, rowBlk v3 = some k → ρ' k = .ms a b := by
    intro k hk
    rcases hb3 k hk with e | ⟨e1, e2⟩
    · rw [r1 k ((h.ms a b hp).lt e)]; exact hM k e
    · exact r3 k e1 e2
  have himm : ∀ k, ρ k = .imm → ¬ (k = lb a b ∨ rowBlk (vM a b) = some k) := by
    rintro k hk (e | e)
    · rw [e, hL] at hk; cases hk
    · rw [hM k e] at hk; cases hk
  have hlt : ∀ k, ρ k = .imm → k < w.heap.size := by
    intro k hk
    rcases Nat.lt_or_ge k w.heap.size with h | h
    · exact h
    · rw [hcut k h] at hk; cases hk
  have E2 := E1.putLine (w' := w3) (l := { S.ln a b with ms := ms' }) (t' := vT a b) (M' := v3) (z' := z') hp hl3 ?_ hr3 hq ?_ hf3.size ?_ (E1.rt a b hp) hb3'
  · rw [upd2_self] at E2
    exact ⟨ρ', E2, r1, r4, fun k hk => hf3.block k (hlt k hk) (himm k hk)⟩
  · refine (E1.tr a b hp).fr hf3 (fun k hk e => ?_)
    have h1 := E1.rt a b hp k hk
    rcases e with e | e
    · rw [e, E1.rl a b hp] at h1; cases h1
    · rw [E1.rs a b hp k e] at h1; cases h1
  · intro q hq'
    exact (him q hq').keep' hf3.size (fun k hk hi => hf3.block k hk (himm k hi)) (fun k hk hi => by rw [r1 k hk]; exact hi)
  · intro j hj h1 h2 h3 h4
    refine hf3.block j hj (fun e => ?_)
    rcases e with e | e
    · rw [e] at h1; exact h1 (E1.rl a b hp)
    · exact h3 (E1.rs a b hp j e)
theorem deliver_none {w : World} {ρ : Nat → Role} {g : Nat} {S : ES} {vA : Value} {mb : Nat} {L : List WE} {lk : Nat} {lb : Int → Int → Nat} {vT vM : Int → Int → Value} {mz : Int → Int → List (Value × EM)}
    (h : EscAt w ρ g S vA mb L lk lb vT vM mz) (a b : Int) (lost again : Bool) (hp : pairB S.acc.length a b = false) : Calls Try.prog 29 #[.pointer (some ⟨g, 0, none⟩), .int .i64 a, .int .i64 b, .bool lost, .bool again] w fun e w' => e = .returned (.bool false) ∧ w' = w := by
  have hp' : pairB S.acc.length b a = false := by
    cases e : pairB S.acc.length b a with
    | false => rfl
    | true => rw [pairB_swap e] at hp; cases hp
  have H := Lib.hid (line_none h a b hp)
  have H' := Lib.hid (line_none h b a hp')
  clear h hp hp'
  go_enter Try.func29, Try.ntmps29
  go_wp2_with fail
  refine H.out.mono ?_
  rintro e w' ⟨rfl, rfl⟩
  go_wp2_with fail
  refine H'.out.mono ?_
  rintro e w' ⟨rfl, rfl⟩
  go_wp2_with fail
  go_ret
  exact ⟨rfl, rfl⟩
theorem deliver_empty {w : World} {ρ : Nat → Role} {g : Nat} {S : ES} {vA : Value} {mb : Nat} {L : List WE} {lk : Nat} {lb : Int → Int → Nat} {vT vM : Int → Int → Value} {mz : Int → Int → List (Value × EM)}
    (h : EscAt w ρ g S vA mb L lk lb vT vM mz) (a b : Int) (lost again : Bool) (hp : pairB S.acc.length a b = true) (hm : (S.ln a b).ms = []) : Calls Try.prog 29 #[.pointer (some ⟨g, 0, none⟩), .int .i64 a, .int .i64 b, .bool lost, .bool again] w fun e w' => e = .returned (.bool false) ∧ Fr None' w w' := by
  have H := Lib.hid (line_at h a b hp)
  have H' := Lib.hid (line_at h b a (pairB_swap hp))
  have hl := h.line a b hp
  obtain ⟨A, cap, hv⟩ := ms_form (h.ms a b hp) (h.mq a b hp)
  rw [hm] at hv
  rw [hv] at hl
  have HT := Lib.hid (take_nil hl)
  clear h hp hl hv hm
  go_enter Try.func29, Try.ntmps29
  go_wp2_with fail
  refine H.out.mono ?_
  rintro e w' ⟨rfl, rfl⟩
  go_wp2_with fail
  refine H'.out.mono ?_
  rintro e w' ⟨rfl, rfl⟩
  go_wp2_with fail
  refine HT.out.mono ?_
  rintro e w2 ⟨rfl, hf⟩
  have Hf := Lib.hid hf
  clear hf
  go_wp2_with fail
  go_ret
  exact ⟨rfl, Hf.out.alloc _⟩
end Go.Proofs.Ytdjaofkbgkifkaa

/- Package escrow: Give whole; Send. -/
import Derived.Test.YtdjaofkbgkifkaaE8
set_option linter.unusedVariables false
set_option linter.unusedSimpArgs false
namespace Go.Proofs.Ytdjaofkbgkifkaa
open Go.RowKit

theorem give_ok {U : Int} {t : Nat} {w : World} {F : Nat → Prop} {g : Nat} {S : ES} (h : EscIs w F g S) (hU : U ≤ 1000000000) (hI : Inv U t S) (ht : t ≤ 1000000) (a b k : Int) :
    Calls Try.prog 27 #[.pointer (some ⟨g, 0, none⟩), .int .i64 a, .int .i64 b, .int .i64 k] w (EPost w F g (.int .i64 (eGive S a b k).1) (eGive S a b k).2) := by
  have h0 := h
  obtain ⟨ρ, vA, mb, L, lk, lb, vT, vM, mz, h, hF⟩ := h
  by_cases h1 : pairB S.acc.length a b = false ∨ k < 1
  · have e : eGive S a b k = (1, S) := by unfold eGive; rw [if_pos h1]
    rw [e]
    exact (give_arg1 h a b k h1).mono fun _ _ he => EPost.same h0 he
  · have hp : pairB S.acc.length a b = true := by cases e : pairB S.acc.length a b <;> simp_all
    have hk : 1 ≤ k := by omega
    by_cases h2 : (S.ac a).u < k
    · have e : eGive S a b k = (19, S) := by unfold eGive; rw [if_neg h1, if_pos h2]
      rw [e]
      exact (give_no h hI a b k hp hk 19 (.inl ⟨rfl, h2⟩)).mono fun _ _ he => EPost.same h0 he
    · by_cases h3 : (S.ln a b).conf + 100 ≤ (S.ln a b).all.length
      · have e : eGive S a b k = (28, S) := by unfold eGive; rw [if_neg h1, if_neg h2, if_pos h3]
        rw [e]
        exact (give_no h hI a b k hp hk 28 (.inr ⟨rfl, by omega, h3⟩)).mono fun _ _ he => EPost.same h0 he
      · have e : eGive S a b k = (0, (S.putA a ⟨(S.ac a).u - k, (S.ac a).s, (S.ac a).r⟩).putL a b { S.ln a b with all := (S.ln a b).all ++ [k] }) := by unfold eGive; rw [if_neg h1, if_neg h2, if_neg h3]
        rw [e]
        exact give_do h hF hU hI ht a b k hp hk (by omega) h3
theorem Row.rdI {ρ : Nat → Role} {w : World} {v : Value} {xs : List Int} (h : Row w 1 v (xs.flatMap icell)) (hρ : ∀ k, rowBlk v = some k → ρ k = .imm) : RdI ρ w v xs := by
  obtain ⟨A, n, cap, rfl, hn⟩ := h.form
  have hn' : n = xs.length := by rw [flat_length _ 1 icell_len] at hn; omega
  refine ⟨A, n, cap, rfl, hn', fun hp => ?_⟩
  obtain ⟨g, off, rfl, hb, hc⟩ := h.at_ (i := 0) hp
  refine ⟨g, off, rfl, hρ g hb, h.lt hb, fun j x hj => ?_⟩
  have hj' : j < n := by rw [hn']; exact (List.getElem?_eq_some_iff.1 hj).1
  obtain ⟨g', off', he, _, hc'⟩ := h.at_ (i := j) hj'
  cases he
  have := hc' 0 (by decide)
  rw [Nat.mul_one, Nat.add_zero, Nat.add_zero] at this
  rw [this]
  have := flat_get icell 1 icell_len xs j x 0 (.int .i64 x) hj rfl
  simpa using this
theorem send_end {w w1 w3 : World} {F : Nat → Prop} {ρ : Nat → Role} {g : Nat} {S : ES} {vA : Value} {mb : Nat} {L : List WE} {lk : Nat} {lb : Int → Int → Nat} {vT vM : Int → Int → Value} {mz : Int → Int → List (Value × EM)} {v1 v3 : Value}
    (h : EscAt w ρ g S vA mb L lk lb vT vM mz) (hF : ∀ k, ρ k ≠ .other → F k) (a b : Int) (hp : pairB S.acc.length a b = true) (hf1 : Fr None' w w1) (hr1 : Row w1 1 v1 (((S.ln a b).all.drop (S.ln a b).conf).flatMap icell)) (hb1 : ∀ k, rowBlk v1 = some k → w.heap.size ≤ k ∧ k < w1.heap.size)
    (hr3 : Row w3 4 v3 ((mz a b ++ [(v1, eMsg S a b)]).flatMap mcells)) (hb3 : ∀ k, rowBlk v3 = some k → rowBlk (vM a b) = some k ∨ (w1.heap.size ≤ k ∧ k < w3.heap.size))
    (hl3 : w3.heap[lb a b]? = some (.cells #[vT a b, .int .i64 ((S.ln a b).all.length : Int), .int .i64 ((S.ln a b).rcv : Int), v3] 109)) (hf3 : Fr (fun k => k = lb a b ∨ rowBlk (vM a b) = some k) w1 w3) :
    EPost w F g (.int .i64 0) (S.putL a b { S.ln a b with ms := (S.ln a b).ms ++ [eMsg S a b] }) (.returned (.int .i64 0)) w3 := by
  have hL := h.rl a b hp
  have hM := h.rs a b hp
  have hFl : F (lb a b) := hF _ (by rw [hL]; simp)
  have hll : lb a b < w.heap.size := (Array.getElem?_eq_some_iff.1 (h.line a b hp)).1
  obtain ⟨ρ', hρ⟩ : ∃ ρ' : Nat → Role, ρ' = fun k => if k < w.heap.size then ρ k else if k < w1.heap.size then .imm else if k < w3.heap.size then .ms a b else .other := ⟨_, rfl⟩
  have r1 : ∀ k, k < w.heap.size → ρ' k = ρ k := fun k hk => by rw [hρ]; simp only [if_pos hk]
  have r2 : ∀ k, w.heap.size ≤ k → k < w1.heap.size → ρ' k = .imm := fun k h1 h2 => by rw [hρ]; simp only [if_neg (show ¬ k < w.heap.size by omega), if_pos h2]
  have r3 : ∀ k, w1.heap.size ≤ k → k < w3.heap.size → ρ' k = .ms a b := fun k h1 h2 => by have := hf1.size; rw [hρ]; simp only [if_neg (show ¬ k < w.heap.size by omega), if_neg (show ¬ k < w1.heap.size by omega), if_pos h2]
  have E1 := (h.role (ρ' := ρ') (fun k hk _ => r1 k hk)).fr hf1 (fun _ _ h => h)
  have hb3' : ∀ k, rowBlk v3 = some k → ρ' k = .ms a b := by
    intro k hk
    rcases hb3 k hk with e | ⟨e1, e2⟩
    · rw [r1 k ((h.ms a b hp).lt e)]; exact hM k e
    · exact r3 k e1 e2
  have E2 := E1.putLine (w' := w3) (l := { S.ln a b with ms := (S.ln a b).ms ++ [eMsg S a b] }) (t' := vT a b) (M' := v3) (z' := mz a b ++ [(v1, eMsg S a b)]) hp hl3 ?_ hr3 ?_ ?_ hf3.size ?_ (E1.rt a b hp) hb3'
  · refine ⟨rfl, ⟨ρ', _, _, _, _, _, _, _, _, E2, fun j hj => ?_⟩, ?_⟩
    · rw [hρ] at hj
      have := hf1.size
      have := hf3.size
      simp only [] at hj
      split at hj
      · exact .inl (hF j hj)
      · split at hj
        · rename_i h1 h2; exact .inr ⟨by omega, by omega⟩
        · split at hj
          · rename_i h1 h2 h3; exact .inr ⟨by omega, h3⟩
          · exact absurd rfl hj
    · refine (hf1.mono (fun _ _ h => h.elim)).trans hf3 (fun i hi e => ?_)
      rcases e with e | e
      · rw [e]; exact hFl
      · exact hF i (by rw [hM i e]; simp)
  · refine (E1.tr a b hp).fr hf3 (fun k hk e => ?_)
    have h1 := E1.rt a b hp k hk
    rcases e with e | e
    · rw [e, E1.rl a b hp] at h1; cases h1
    · rw [E1.rs a b hp k e] at h1; cases h1
  · rw [List.map_append, h.mq a b hp]; rfl
  · intro q hq
    rcases List.mem_append.1 hq with hq | hq
    · refine (E1.im a b hp q hq).keep hf3.size (fun j hj hi => hf3.block j hj (fun e => ?_))
      rcases e with e | e
      · rw [e, E1.rl a b hp] at hi; cases hi
      · rw [E1.rs a b hp j e] at hi; cases hi
    · simp only [List.mem_singleton] at hq
      subst hq
      have e : (eMsg S a b).tr (S.ln a b).all = (S.ln a b).all.drop (S.ln a b).conf := by simp [EM.tr, eMsg]
      show RdI ρ' w3 v1 ((eMsg S a b).tr (S.ln a b).all)
      rw [e]
      refine (hr1.fr hf3 (fun k hk e => ?_)).rdI (fun k hk => r2 k (hb1 k hk).1 (hb1 k hk).2)
      have h1 := (hb1 k hk).1
      rcases e with e | e
      · omega
      · have := (h.ms a b hp).lt e; omega
  · intro j hj h1 h2 h3 h4
    refine hf3.block j hj (fun e => ?_)
    rcases e with e | e
    · rw [e] at h1; exact h1 (E1.rl a b hp)
    · exact h3 (E1.rs a b hp j e)
end Go.Proofs.Ytdjaofkbgkifkaa

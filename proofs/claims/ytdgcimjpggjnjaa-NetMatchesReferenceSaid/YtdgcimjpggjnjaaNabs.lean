/- Package net: each function as a function on an abstract state. -/
import Derived.Test.YtdgcimjpggjnjaaNcut
set_option linter.unusedVariables false
set_option linter.unusedSimpArgs false
namespace Go.Proofs.Ytdgcimjpggjnjaa
open Go.RowKit

/-- The state of a network. -/
structure NS where
  N : Int
  q : Int → Int → List ByteArray
  c : Int → Int → Bool
def NS.new (n : Int) : NS := ⟨n, fun _ _ => [], fun _ _ => false⟩
def nSend (S : NS) (a b : Int) (t : ByteArray) : Int × NS :=
  if knowsB S.N a b = false ∨ 20000 < t.size then (1, S) else if S.c a b then (29, S) else if 100 ≤ (S.q a b).length then (28, S) else (0, { S with q := qset S.q a b (S.q a b ++ [t]) })
def nDeliver (S : NS) (a b : Int) (lost again : Bool) : (ByteArray × Bool) × NS :=
  if knowsB S.N a b then
    match S.q a b with
    | [] => ((⟨#[]⟩, false), S)
    | x :: r => (if lost then (⟨#[]⟩, false) else (x, true), if lost || !again then { S with q := qset S.q a b r } else S)
  else ((⟨#[]⟩, false), S)
def nTurn (S : NS) (a b : Int) (v : Bool) : Int × NS :=
  if knowsB S.N a b then
    if S.c a b == v then (12, S) else (0, { S with q := if v then qset (qset S.q a b []) b a [] else S.q, c := cset (cset S.c a b v) b a v })
  else (1, S)
def nWait (S : NS) (a b : Int) : List ByteArray := waitL S.N S.q a b

/-- In memory. -/
def NetS (w : World) (F : Nat → Prop) (g : Nat) (S : NS) : Prop := NetIs w F g S.N S.q S.c
/-- No queue is longer than 100. -/
def QB (S : NS) : Prop := ∀ a b, (S.q a b).length ≤ 100
/-- The blocks from B on that there are. -/
def Own (B : Nat) (w : World) (k : Nat) : Prop := B ≤ k ∧ k < w.heap.size
theorem Own.ext {B : Nat} {w w' : World} (hB : B ≤ w.heap.size) (hs : w.heap.size ≤ w'.heap.size) : ∀ k, Ext (Own B w) w w' k → Own B w' k := by
  intro k hk
  rcases hk with hk | hk
  · exact ⟨hk.1, Nat.lt_of_lt_of_le hk.2 hs⟩
  · exact ⟨Nat.le_trans hB hk.1, hk.2⟩
theorem Own.top {B : Nat} {w : World} : ∀ k, w.heap.size ≤ k → ¬ Own B w k := fun k hk h => absurd h.2 (by omega)

theorem QB.new (n : Int) : QB (NS.new n) := fun a b => by simp [NS.new]
theorem qset_len {q : Int → Int → List ByteArray} (hq : ∀ a b, (q a b).length ≤ 100) (a b : Int) (l : List ByteArray) (hl : l.length ≤ 100) : ∀ x y, (qset q a b l x y).length ≤ 100 := by
  intro x y
  unfold qset
  split
  · exact hl
  · exact hq x y
theorem QB.send {S : NS} (h : QB S) (a b : Int) (t : ByteArray) : QB (nSend S a b t).2 := by
  unfold nSend
  split
  · exact h
  · split
    · exact h
    · split
      · exact h
      · rename_i h3
        exact qset_len h a b _ (by simp; omega)
theorem QB.deliver {S : NS} (h : QB S) (a b : Int) (lost again : Bool) : QB (nDeliver S a b lost again).2 := by
  unfold nDeliver
  split
  · split
    · exact h
    · rename_i x r hq
      have := h a b
      rw [hq] at this
      simp at this
      simp only
      split
      · exact qset_len h a b r (by omega)
      · exact h
  · exact h
theorem QB.turn {S : NS} (h : QB S) (a b : Int) (v : Bool) : QB (nTurn S a b v).2 := by
  unfold nTurn
  split
  · split
    · exact h
    · intro x y
      simp only
      split
      · exact qset_len (qset_len h a b [] (by simp)) b a [] (by simp) x y
      · exact h x y
  · exact h

theorem NetS.fr {w w' : World} {F G : Nat → Prop} {g : Nat} {S : NS} (h : NetS w F g S) (hf : Fr G w w') (hd : ∀ k, F k → ¬ G k) : NetS w' F g S := NetIs.fr h hf hd
theorem NetS.mono {w : World} {F G : Nat → Prop} {g : Nat} {S : NS} (h : NetS w F g S) (hF : ∀ k, F k → G k) : NetS w G g S := NetIs.mono h hF

theorem s_new (n : Int) (w : World) (h1 : 1 ≤ n) (h2 : n ≤ 8) :
    Calls Try.prog 10 #[.int .i64 n] w fun e w' => ∃ g, e = .returned (.tuple #[.pointer (some ⟨g, 0, none⟩), .int .i64 0]) ∧ NetS w' (Ext None' w w') g (NS.new n) ∧ Fr None' w w' := by
  refine (new_ok n w h1 h2).mono ?_
  rintro e w' ⟨rfl, rfl⟩
  refine ⟨_, rfl, ⟨w.heap.size, w.heap.size + 1, [], 0, [], 0, ?_⟩, (((Fr.refl _ _).alloc _).alloc _).alloc _⟩
  have e0 : (w.alloc (.map #[] 0)).heap.size = w.heap.size + 1 := by simp
  have e1 : ((w.alloc (.map #[] 0)).alloc (.map #[] 0)).heap.size = w.heap.size + 2 := by simp
  refine { obj := ?_, qs := ?_, cs := ?_, ok := WOK.nil, ne1 := by omega, ne2 := by omega, ne3 := by omega, fg := .inr (by simp), fq := .inr (by simp; omega), fc := .inr (by simp), row := ?_, own := ?_, apart := ?_, cut := ?_ }
  · have := heap_alloc_new ((w.alloc (.map #[] 0)).alloc (.map #[] 0)) (.cells #[.int .i64 n, .map (some w.heap.size), .map (some (w.heap.size + 1))] 56)
    rw [e1] at this
    exact this
  · rw [Below.heap_alloc _ _ _ (by simp; omega), Below.heap_alloc _ _ _ (by simp)]
    exact heap_alloc_new w _
  · rw [Below.heap_alloc _ _ _ (by simp)]
    have := heap_alloc_new (w.alloc (.map #[] 0)) (.map #[] 0)
    rw [e0] at this
    exact this
  · intro a b; exact Row.nil _ _ _
  · intro a b k hk; simp [wval, nilS, rowBlk] at hk
  · intro a b a' b' _ k hk; simp [wval, nilS, rowBlk] at hk
  · intro a b; rfl
theorem s_new_bad (n : Int) (w : World) (h : n < 1 ∨ 8 < n) : Calls Try.prog 10 #[.int .i64 n] w fun e w' => e = .returned (.tuple #[.pointer none, .int .i64 1]) ∧ Fr None' w w' :=
  (new_bad n w h).mono fun _ _ ⟨he, hw⟩ => ⟨he, hw ▸ Fr.refl _ _⟩

theorem fr_none {F : Nat → Prop} {w w' : World} (h : Fr None' w w') : Fr F w w' := h.mono (fun _ _ h => h.elim)
theorem NetIs.keep {w w' : World} {F : Nat → Prop} {g : Nat} {N : Int} {q : Int → Int → List ByteArray} {c : Int → Int → Bool} (h : NetIs w F g N q c) (hf : Fr None' w w') : NetIs w' (Ext F w w') g N q c :=
  (h.fr hf (fun _ _ h => h)).mono (fun k hk => .inl hk)

theorem s_send {w : World} {F : Nat → Prop} {g : Nat} {S : NS} (hn : NetS w F g S) (a b : Int) (t : ByteArray) (ht : t.size ≤ 9223372036854775807) :
    Calls Try.prog 11 #[.pointer (some ⟨g, 0, none⟩), .int .i64 a, .int .i64 b, .string t] w fun e w' => e = .returned (.int .i64 (nSend S a b t).1) ∧ NetS w' (Ext F w w') g (nSend S a b t).2 ∧ Fr F w w' := by
  obtain ⟨N, q, c⟩ := S
  unfold NetS at hn
  simp only at hn
  by_cases h1 : knowsB N a b = false ∨ 20000 < t.size
  · have e1 : nSend ⟨N, q, c⟩ a b t = (1, ⟨N, q, c⟩) := by simp only [nSend]; rw [if_pos h1]
    rw [e1]
    obtain ⟨_, _, _, _, _, _, hn'⟩ := hn
    refine (send_arg a b t hn'.cells.1 h1 ht).mono ?_
    rintro e w' ⟨he, hf⟩
    exact ⟨he, NetIs.keep ⟨_, _, _, _, _, _, hn'⟩ hf, fr_none hf⟩
  · have hk : knowsB N a b = true := by
      cases hk : knowsB N a b with
      | true => rfl
      | false => exact absurd (.inl hk) h1
    have ht' : t.size ≤ 20000 := by
      rcases Nat.lt_or_ge 20000 t.size with h | h
      · exact absurd (.inr h) h1
      · exact h
    by_cases h2 : c a b = true
    · have e1 : nSend ⟨N, q, c⟩ a b t = (29, ⟨N, q, c⟩) := by simp only [nSend]; rw [if_neg h1, if_pos h2]
      rw [e1]
      refine (send_closed hn a b t hk ht' h2).mono ?_
      rintro e w' ⟨he, hf⟩
      exact ⟨he, NetIs.keep hn hf, fr_none hf⟩
    · have h2' : c a b = false := by simpa using h2
      by_cases h3 : 100 ≤ (q a b).length
      · have e1 : nSend ⟨N, q, c⟩ a b t = (28, ⟨N, q, c⟩) := by simp only [nSend]; rw [if_neg h1, if_neg h2, if_pos h3]
        rw [e1]
        refine (send_full hn a b t hk ht' h2' h3).mono ?_
        rintro e w' ⟨he, hf⟩
        exact ⟨he, NetIs.keep hn hf, fr_none hf⟩
      · have e1 : nSend ⟨N, q, c⟩ a b t = (0, ⟨N, qset q a b (q a b ++ [t]), c⟩) := by simp only [nSend]; rw [if_neg h1, if_neg h2, if_neg h3]
        rw [e1]
        exact send_ok hn a b t hk ht' h2' (by omega)

theorem s_deliver {w : World} {F : Nat → Prop} {g : Nat} {S : NS} (hn : NetS w F g S) (hF : ∀ k, w.heap.size ≤ k → ¬ F k) (hQ : QB S) (a b : Int) (lost again : Bool) :
    Calls Try.prog 12 #[.pointer (some ⟨g, 0, none⟩), .int .i64 a, .int .i64 b, .bool lost, .bool again] w fun e w' =>
      e = .returned (.tuple #[.string (nDeliver S a b lost again).1.1, .bool (nDeliver S a b lost again).1.2]) ∧ NetS w' (Ext F w w') g (nDeliver S a b lost again).2 ∧ Fr F w w' := by
  obtain ⟨N, q, c⟩ := S
  unfold NetS at hn
  simp only at hn
  have hlen : (q a b).length ≤ 1000000 := by have := hQ a b; simp at this; omega
  by_cases hk : knowsB N a b = true
  · cases hq : q a b with
    | nil =>
      have e1 : nDeliver ⟨N, q, c⟩ a b lost again = ((⟨#[]⟩, false), ⟨N, q, c⟩) := by simp only [nDeliver]; rw [if_pos hk, hq]
      rw [e1]
      refine (deliver_no hn a b lost again (.inr hq)).mono ?_
      rintro e w' ⟨he, hf⟩
      exact ⟨he, NetIs.keep hn hf, fr_none hf⟩
    | cons x r =>
      cases lost with
      | true =>
        have e1 : nDeliver ⟨N, q, c⟩ a b true again = ((⟨#[]⟩, false), ⟨N, qset q a b r, c⟩) := by simp only [nDeliver]; rw [if_pos hk, hq]; simp
        rw [e1]
        exact deliver_lost hn hF a b hk x r hq hlen again
      | false =>
        cases again with
        | true =>
          have e1 : nDeliver ⟨N, q, c⟩ a b false true = ((x, true), ⟨N, q, c⟩) := by simp only [nDeliver]; rw [if_pos hk, hq]; simp
          rw [e1]
          refine (deliver_again hn a b hk x r hq).mono ?_
          rintro e w' ⟨he, hf⟩
          exact ⟨he, NetIs.keep hn hf, fr_none hf⟩
        | false =>
          have e1 : nDeliver ⟨N, q, c⟩ a b false false = ((x, true), ⟨N, qset q a b r, c⟩) := by simp only [nDeliver]; rw [if_pos hk, hq]; simp
          rw [e1]
          exact deliver_take hn hF a b hk x r hq hlen
  · have hk' : knowsB N a b = false := by simpa using hk
    have e1 : nDeliver ⟨N, q, c⟩ a b lost again = ((⟨#[]⟩, false), ⟨N, q, c⟩) := by simp only [nDeliver]; rw [if_neg hk]
    rw [e1]
    refine (deliver_no hn a b lost again (.inl hk')).mono ?_
    rintro e w' ⟨he, hf⟩
    exact ⟨he, NetIs.keep hn hf, fr_none hf⟩

theorem s_turn {w : World} {F : Nat → Prop} {g : Nat} {S : NS} (hn : NetS w F g S) (hF : ∀ k, w.heap.size ≤ k → ¬ F k) (a b : Int) (v : Bool) :
    Calls Try.prog 31 #[.pointer (some ⟨g, 0, none⟩), .int .i64 a, .int .i64 b, .bool v] w fun e w' => e = .returned (.int .i64 (nTurn S a b v).1) ∧ NetS w' (Ext F w w') g (nTurn S a b v).2 ∧ Fr F w w' := by
  obtain ⟨N, q, c⟩ := S
  unfold NetS at hn
  simp only at hn
  by_cases hk : knowsB N a b = true
  · by_cases hc : c a b = v
    · have e1 : nTurn ⟨N, q, c⟩ a b v = (12, ⟨N, q, c⟩) := by simp only [nTurn]; rw [if_pos hk, if_pos (by simp [hc])]
      rw [e1]
      refine (turn_state hn a b v hk hc).mono ?_
      rintro e w' ⟨he, hf⟩
      exact ⟨he, NetIs.keep hn hf, fr_none hf⟩
    · have e1 : nTurn ⟨N, q, c⟩ a b v = (0, ⟨N, if v then qset (qset q a b []) b a [] else q, cset (cset c a b v) b a v⟩) := by simp only [nTurn]; rw [if_pos hk, if_neg (by simp [hc])]
      rw [e1]
      cases v with
      | true => exact turn_cut hn hF a b hk (by simpa using hc)
      | false => exact turn_heal hn hF a b hk (by simpa using hc)
  · have hk' : knowsB N a b = false := by simpa using hk
    have e1 : nTurn ⟨N, q, c⟩ a b v = (1, ⟨N, q, c⟩) := by simp only [nTurn]; rw [if_neg hk]
    rw [e1]
    refine (turn_arg hn a b v hk').mono ?_
    rintro e w' ⟨he, hf⟩
    exact ⟨he, NetIs.keep hn hf, fr_none hf⟩
theorem s_cut {w : World} {F : Nat → Prop} {g : Nat} {S : NS} (hn : NetS w F g S) (hF : ∀ k, w.heap.size ≤ k → ¬ F k) (a b : Int) :
    Calls Try.prog 20 #[.pointer (some ⟨g, 0, none⟩), .int .i64 a, .int .i64 b] w fun e w' => e = .returned (.int .i64 (nTurn S a b true).1) ∧ NetS w' (Ext F w w') g (nTurn S a b true).2 ∧ Fr F w w' := by
  refine (cut_calls _ a b (fun n w' => n = (nTurn S a b true).1 ∧ NetS w' (Ext F w w') g (nTurn S a b true).2 ∧ Fr F w w') w ((s_turn hn hF a b true).mono ?_)).mono ?_
  · rintro e w' ⟨he, h⟩; exact ⟨_, he, rfl, h⟩
  · rintro e w' ⟨n, he, rfl, h⟩; exact ⟨he, h⟩
theorem s_heal {w : World} {F : Nat → Prop} {g : Nat} {S : NS} (hn : NetS w F g S) (hF : ∀ k, w.heap.size ≤ k → ¬ F k) (a b : Int) :
    Calls Try.prog 21 #[.pointer (some ⟨g, 0, none⟩), .int .i64 a, .int .i64 b] w fun e w' => e = .returned (.int .i64 (nTurn S a b false).1) ∧ NetS w' (Ext F w w') g (nTurn S a b false).2 ∧ Fr F w w' := by
  refine (heal_calls _ a b (fun n w' => n = (nTurn S a b false).1 ∧ NetS w' (Ext F w w') g (nTurn S a b false).2 ∧ Fr F w w') w ((s_turn hn hF a b false).mono ?_)).mono ?_
  · rintro e w' ⟨he, h⟩; exact ⟨_, he, rfl, h⟩
  · rintro e w' ⟨n, he, rfl, h⟩; exact ⟨he, h⟩
theorem s_wait {w : World} {F : Nat → Prop} {g : Nat} {S : NS} (hn : NetS w F g S) (hQ : QB S) (a b : Int) :
    Calls Try.prog 14 #[.pointer (some ⟨g, 0, none⟩), .int .i64 a, .int .i64 b] w fun e w' => ∃ v, e = .returned v ∧ Row w' 1 v (strs (nWait S a b)) ∧ (∀ k, rowBlk v = some k → w.heap.size ≤ k ∧ k < w'.heap.size) ∧ Fr None' w w' :=
  waiting_any hn a b (by have := hQ a b; omega)
end Go.Proofs.Ytdgcimjpggjnjaa

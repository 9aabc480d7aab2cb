/- NetFull: the walk. -/
import Derived.Test.YtdgcimjpggjnjaaNhead
set_option linter.unusedVariables false
set_option linter.unusedSimpArgs false
namespace Go.Proofs.Ytdgcimjpggjnjaa
open Go.RowKit

def fullS (t : ByteArray) : Nat → NS
  | 0 => NS.new 2
  | k + 1 => (nSend (fullS t k) 1 0 t).2
theorem knows10 : knowsB 2 1 0 = true := by decide
theorem knows01 : knowsB 2 0 1 = true := by decide
theorem fullS_is (t : ByteArray) (ht : t.size ≤ 100) : ∀ k, (fullS t k).N = 2 ∧ (∀ a b, (fullS t k).c a b = false) ∧ (fullS t k).q 1 0 = List.replicate (min k 100) t ∧ (fullS t k).q 0 1 = []
  | 0 => ⟨rfl, fun _ _ => rfl, rfl, rfl⟩
  | k + 1 => by
    obtain ⟨h1, h2, h3, h4⟩ := fullS_is t ht k
    simp only [fullS]
    unfold nSend
    rw [h1, h2, h3]
    rw [if_neg (by rw [knows10]; simp; omega)]
    simp only [Bool.false_eq_true, if_false, List.length_replicate]
    by_cases hk : 100 ≤ min k 100
    · rw [if_pos hk]
      exact ⟨h1, h2, by rw [h3]; congr 1; omega, h4⟩
    · rw [if_neg hk]
      refine ⟨rfl, h2, ?_, ?_⟩
      · have e : min (k + 1) 100 = min k 100 + 1 := by omega
        simp only [qset, and_self, if_true]
        rw [e, List.replicate_succ']
      · simp only [qset]
        rw [if_neg (by omega)]
        exact h4
theorem fullE (t : ByteArray) (ht : t.size ≤ 100) (k : Nat) : (nSend (fullS t k) 1 0 t).1 = if k < 100 then 0 else 28 := by
  obtain ⟨h1, h2, h3, h4⟩ := fullS_is t ht k
  unfold nSend
  rw [h1, if_neg (by rw [knows10]; simp; omega), h2, h3]
  simp only [Bool.false_eq_true, if_false, List.length_replicate]
  by_cases hk : k < 100
  · rw [if_neg (by omega), if_pos hk]
  · rw [if_pos (by omega), if_neg hk]
theorem fullE2 (t : ByteArray) (ht : t.size ≤ 100) (k : Nat) : (nSend (fullS t k) 0 1 t).1 = 0 := by
  obtain ⟨h1, h2, h3, h4⟩ := fullS_is t ht k
  unfold nSend
  rw [h1, if_neg (by rw [knows01]; simp; omega), h2, h4]
  simp
theorem fullW (t : ByteArray) (ht : t.size ≤ 100) (k : Nat) : nWait (fullS t k) 1 0 = List.replicate (min k 100) t := by
  obtain ⟨h1, h2, h3, h4⟩ := fullS_is t ht k
  unfold nWait waitL
  rw [h1, knows10, h3]
  simp
theorem fullQ (t : ByteArray) : ∀ k, QB (fullS t k)
  | 0 => QB.new 2
  | k + 1 => (fullQ t k).send 1 0 t

theorem netFull_long (r : Nat) (t : ByteArray) (w : World) (hr : r < 256) (ht : 100 < t.size) (htm : t.size ≤ 9223372036854775807) :
    Calls Try.prog 4 #[.int .u8 r, .string t] w fun e w' => e = .returned (.bool true) ∧ Fr None' w w' := by
  go_enter Try.func4, Try.ntmps4
  go_wp2_with fail
  refine (head_any w).mono ?_
  rintro e w1 ⟨rfl, hf1⟩
  have Hf1 := Lib.hid hf1
  clear hf1
  go_wp2_with fail
  refine (s_new 2 w1 (by decide) (by decide)).mono ?_
  rintro e w2 ⟨g, rfl, hn2, hf2⟩
  have Hf2 := Lib.hid hf2
  clear hn2 hf2
  go_wp2_with fail
  go_ret
  exact ⟨rfl, Hf1.out.trans0 Hf2.out⟩

theorem netFull_any (r : Nat) (t : ByteArray) (w : World) (hr : r < 256) (ht : t.size ≤ 100) :
    Calls Try.prog 4 #[.int .u8 r, .string t] w fun e w' => e = .returned (.bool true) ∧ Fr None' w w' := by
  go_enter Try.func4, Try.ntmps4
  go_wp2_with fail
  refine (head_any w).mono ?_
  rintro e w1 ⟨rfl, hf1⟩
  have Hf1 := Lib.hid hf1
  clear hf1
  go_wp2_with fail
  refine (s_new 2 w1 (by decide) (by decide)).mono ?_
  rintro e w2 ⟨g, rfl, hn2, hf2⟩
  have hb2 : w1.heap.size ≤ w2.heap.size := hf2.size
  have Hn2 : Hid (NetS w2 (Own w1.heap.size w2) g (NS.new 2)) := Lib.hid (hn2.mono (fun k hk => by rcases hk with hk | hk; exact hk.elim; exact hk))
  have Hf2 := Lib.hid hf2
  clear hn2 hf2
  go_wp2_with fail
  obtain ⟨K, hK⟩ : ∃ K : Nat, ((r : Int) % 130) = K := ⟨r % 130, by omega⟩
  have hK130 : K < 130 := by omega
  rw [hK]
  clear hK
  go_loopw [9] (fun i wr => ∃ k : Nat, k ≤ K ∧ i = .int .i64 k ∧ NetS wr (Own w1.heap.size wr) g (fullS t k) ∧ Fr None' w1 wr) (fun i _ => K - (intOf i).toNat)
  case atStart => exact ⟨0, Nat.zero_le _, rfl, Hn2.out, Hf2.out⟩
  case round =>
    obtain ⟨k, hk, rfl, hn, hf⟩ := hrel
    have Hn := Lib.hid hn
    have Hf := Lib.hid hf
    have hbr : w1.heap.size ≤ wr.heap.size := hf.size
    clear hn hf
    by_cases hlt : k < K
    · have hltI : (k : Int) < (K : Int) := by omega
      by_cases h100 : k < 100
      · have hI : decide ((k : Int) < 100) = true := by simp; omega
        have he := fullE t ht k
        rw [if_pos h100] at he
        have He := Lib.hid he
        have H100 := Lib.hid h100
        clear he h100
        go_wp2_with fail
        refine (s_send Hn.out 1 0 t (by omega)).mono ?_
        rw [He.out]
        rintro e w4 ⟨rfl, hn4, hf4⟩
        have Hn4 : Hid (NetS w4 (Own w1.heap.size w4) g (fullS t (k + 1))) := Lib.hid (own_step hbr hn4 hf4)
        have Hf4 := Lib.hid (own_fr rfl Hf.out hf4)
        clear hn4 hf4
        go_wp2_with fail
        go_roundw
        case rel => exact ⟨k + 1, by omega, by go_num, Hn4.out, Hf4.out⟩
        case measure => simp [intOf]; omega
      · have hI : decide ((k : Int) < 100) = false := by simp; omega
        have he := fullE t ht k
        rw [if_neg h100] at he
        have He := Lib.hid he
        have H100 := Lib.hid h100
        clear he h100
        go_wp2_with fail
        refine (s_send Hn.out 1 0 t (by omega)).mono ?_
        rw [He.out]
        rintro e w4 ⟨rfl, hn4, hf4⟩
        have Hn4 : Hid (NetS w4 (Own w1.heap.size w4) g (fullS t (k + 1))) := Lib.hid (own_step hbr hn4 hf4)
        have Hf4 := Lib.hid (own_fr rfl Hf.out hf4)
        clear hn4 hf4
        go_wp2_with fail
        go_roundw
        case rel => exact ⟨k + 1, by omega, by go_num, Hn4.out, Hf4.out⟩
        case measure => simp [intOf]; omega
    · obtain rfl : k = K := by omega
      go_wp2_with fail
      refine (s_wait Hn.out (fullQ t k) 1 0).mono ?_
      rw [fullW t ht k]
      rintro e w4 ⟨v, rfl, hr4, hk4, hf4⟩
      obtain ⟨A, n, cap, rfl, hl⟩ := hr4.form
      have hn4 : n = min k 100 := by rw [strs_length] at hl; simp at hl; omega
      have Hf4 := Lib.hid hf4
      have Hn4 := Lib.hid (Hn.out.fr hf4 (fun _ _ h => h))
      have He := Lib.hid (fullE2 t ht k)
      clear hr4 hk4 hf4 hl
      have hkk : ((k : Int) == (k : Int)) = true := by simp
      by_cases h100 : k ≤ 100
      · obtain rfl : n = k := by omega
        have h100' : (n : Int) ≤ 100 := by omega
        clear hn4
        go_wp2_with fail
        refine (s_send Hn4.out 0 1 t (by omega)).mono ?_
        rw [He.out]
        rintro e w5 ⟨rfl, hn5, hf5⟩
        have hlow : ∀ i, i < w1.heap.size → Own w1.heap.size wr i → False := fun i hi hk => absurd hk.1 (by omega)
        have Hf5 := Lib.hid ((Hf.out.trans0 Hf4.out).trans hf5 (fun i hi hk => (hlow i hi hk).elim))
        clear hn5 hf5
        go_wp2_with fail
        go_ret
        exact ⟨rfl, Hf1.out.trans0 Hf5.out⟩
      · obtain rfl : n = 100 := by omega
        have h100' : 100 < (k : Int) := by omega
        clear hn4 h100
        go_wp2_with fail
        all_goals (refine (s_send Hn4.out 0 1 t (by omega)).mono ?_)
        rw [He.out]
        rintro e w5 ⟨rfl, hn5, hf5⟩
        have hlow : ∀ i, i < w1.heap.size → Own w1.heap.size wr i → False := fun i hi hk => absurd hk.1 (by omega)
        have Hf5 := Lib.hid ((Hf.out.trans0 Hf4.out).trans hf5 (fun i hi hk => (hlow i hi hk).elim))
        clear hn5 hf5
        go_wp2_with fail
        go_ret
        exact ⟨rfl, Hf1.out.trans0 Hf5.out⟩

theorem netFull_walk (w : World) (a : Int) (ha : (Lit.int .u8 a).wf = true) (t : ByteArray) (ht : t.size ≤ 140737488351232) :
    Calls Try.prog 4 #[.int .u8 a, .string t] w fun e w' => e = .returned (.bool true) ∧ Below w.heap.size w w' := by
  have hb : 0 ≤ a ∧ a ≤ 255 := by simp [Lit.wf, IntKind.min, IntKind.max, IntKind.signed, IntKind.bits] at ha; omega
  obtain ⟨r, rfl⟩ := Int.eq_ofNat_of_zero_le hb.1
  by_cases h : t.size ≤ 100
  · exact (netFull_any r t w (by omega) h).mono fun e w' ⟨he, hf⟩ => ⟨he, hf.below (fun _ h => h.elim) (Nat.le_refl _)⟩
  · exact (netFull_long r t w (by omega) (by omega) (by omega)).mono fun e w' ⟨he, hf⟩ => ⟨he, hf.below (fun _ h => h.elim) (Nat.le_refl _)⟩
end Go.Proofs.Ytdgcimjpggjnjaa

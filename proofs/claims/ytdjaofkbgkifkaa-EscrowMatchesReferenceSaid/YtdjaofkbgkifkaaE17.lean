/- Package escrow: Deliver whole; Spent. -/
import Derived.Test.YtdjaofkbgkifkaaE16
set_option linter.unusedVariables false
set_option linter.unusedSimpArgs false
namespace Go.Proofs.Ytdjaofkbgkifkaa
open Go.RowKit

theorem deliver_ok {U : Int} {t : Nat} {w : World} {F : Nat → Prop} {g : Nat} {S : ES} (h : EscIs w F g S) (hU : U ≤ 1000000000) (hI : Inv U t S) (ht : t ≤ 1000000) (a b : Int) (lost again : Bool) :
    Calls Try.prog 29 #[.pointer (some ⟨g, 0, none⟩), .int .i64 a, .int .i64 b, .bool lost, .bool again] w (EPost w F g (.bool (eDeliver S a b lost again).1) (eDeliver S a b lost again).2) := by
  have h0 := h
  obtain ⟨ρ0, vA, mb, L, lk, lb, vT, vM, mz, h, hF0⟩ := h
  obtain ⟨ρ, h, hne, hcut⟩ := h.cutRole
  have hF : ∀ k, ρ k ≠ .other → F k := fun k hk => hF0 k (hne k hk)
  by_cases h1 : pairB S.acc.length a b = false
  · have e : eDeliver S a b lost again = (false, S) := by unfold eDeliver; rw [if_pos h1]
    rw [e]
    exact (deliver_none h a b lost again h1).mono fun _ _ he => EPost.same h0 he
  · have hp : pairB S.acc.length a b = true := by simpa using h1
    cases hm : (S.ln a b).ms with
    | nil =>
      have e : eDeliver S a b lost again = (false, S) := by unfold eDeliver; rw [if_neg h1, hm]
      rw [e]
      refine (deliver_empty h a b lost again hp hm).mono ?_
      rintro e w' ⟨rfl, hf⟩
      exact ⟨rfl, (h0.fr hf (fun _ _ h => h)).mono (fun k hk => .inl hk), hf.mono (fun _ _ h => h.elim)⟩
    | cons m q =>
      have e : eDeliver S a b lost again = (true, if lost then eNext S a b (if again then q ++ [m] else q) else eTake (eNext S a b (if again then q ++ [m] else q)) a b m) := by unfold eDeliver; rw [if_neg h1, hm]
      rw [e]
      cases lost with
      | true =>
        cases again with
        | true => exact deliver_lost_again h hF hcut hI a b hp m q hm
        | false => exact deliver_lost_once h hF hcut hI a b hp m q hm
      | false =>
        cases again with
        | true => exact deliver_do_again h hF hcut hU hI ht a b hp m q hm
        | false => exact deliver_do_once h hF hcut hU hI ht a b hp m q hm
theorem sum_take_le : ∀ (l : List Int), (∀ x ∈ l, 0 ≤ x) → ∀ k, 0 ≤ (l.take k).sum ∧ (l.take k).sum ≤ l.sum := by
  intro l h k
  have h1 := sum_nonneg (l.take k) (fun x hx => h x (List.mem_of_mem_take hx))
  have h2 := sum_nonneg (l.drop k) (fun x hx => h x (List.mem_of_mem_drop hx))
  have h3 : (l.take k).sum + (l.drop k).sum = l.sum := by rw [← List.sum_append, List.take_append_drop]
  omega
theorem spent_le {U : Int} {t : Nat} {S : ES} (h : Inv U t S) (k : Nat) : 0 ≤ ((S.acc.map (·.s)).take k).sum ∧ ((S.acc.map (·.s)).take k).sum ≤ U := by
  have h1 : ∀ x ∈ S.acc.map (·.s), 0 ≤ x := fun x hx => by obtain ⟨y, hy, rfl⟩ := List.mem_map.1 hx; exact (mem_u0 h.sh hy).2
  have h2 : ∀ x ∈ S.acc.map (·.u), 0 ≤ x := fun x hx => by obtain ⟨y, hy, rfl⟩ := List.mem_map.1 hx; exact (mem_u0 h.sh hy).1
  have h3 := sum_take_le _ h1 k
  have h4 := sum_nonneg _ h2
  have h5 := eFly_nonneg h.sh
  have h6 := h.sum
  unfold eUnits eSpent at h6
  omega
theorem sum_take_succ (l : List Int) (k : Nat) (x : Int) (hx : l[k]? = some x) : (l.take (k + 1)).sum = (l.take k).sum + x := by
  rw [List.take_add_one, hx, Option.toList_some, List.sum_append]; simp
theorem spent_nil (w : World) : Calls Try.prog 33 #[.pointer none] w fun e w' => e = .returned (.int .i64 0) ∧ w' = w := by
  go_enter Try.func33, Try.ntmps33
  go_wp2_with fail
  go_ret
  exact ⟨rfl, rfl⟩
theorem spent_ok {U : Int} {t : Nat} {w : World} {F : Nat → Prop} {g : Nat} {S : ES} (h : EscIs w F g S) (hU : U ≤ 1000000000) (hI : Inv U t S) :
    Calls Try.prog 33 #[.pointer (some ⟨g, 0, none⟩)] w fun e w' => e = .returned (.int .i64 (eSpent S)) ∧ Fr None' w w' := by
  obtain ⟨ρ, vA, mb, L, lk, lb, vT, vM, mz, h, _⟩ := h
  obtain ⟨c0, _⟩ := h.cells
  obtain ⟨A, cap, rfl⟩ := acc_form h.acc
  have hn8 := hI.sh.n8
  have Hh := Lib.hid h.acc
  have HI := Lib.hid hI
  have HU := Lib.hid hU
  obtain ⟨n, hn⟩ : ∃ n, n = S.acc.length := ⟨_, rfl⟩
  rw [← hn] at c0
  have Hn := Lib.hid hn
  have hn8' : n ≤ 8 := by omega
  clear h hI hU hn8 hn
  go_enter Try.func33, Try.ntmps33
  go_wp2_with fail
  go_loopw [3, 13] (fun s iv wr => ∃ i : Nat, i ≤ n ∧ iv = .int .i64 i ∧ s = .int .i64 (((S.acc.map (·.s)).take i).sum) ∧ Fr None' w wr) (fun _ iv _ => n - (intOf iv).toNat)
  case atStart => exact ⟨0, Nat.zero_le _, rfl, rfl, Fr.refl _ _⟩
  case round =>
    obtain ⟨i, hi, rfl, rfl, hf⟩ := hrel
    have Hf := Lib.hid hf
    by_cases hlt : i < n
    · have hltI : (i : Int) < n := by omega
      have hi0 : ¬ (i : Int) < 0 := by omega
      have hx : S.acc[i]? = some (S.acc[i]'(by rw [← Hn.out]; exact hlt)) := List.getElem?_eq_getElem _
      generalize S.acc[i]'(by rw [← Hn.out]; exact hlt) = x at hx
      obtain ⟨ga, off, cap', he, _, u0, u1, u2, _⟩ := acc_get (Hh.out.fr hf (fun _ _ h => h)) (by rw [← Hn.out]; omega) hx
      cases he
      have hs := sum_take_succ (S.acc.map (·.s)) i x.s (by rw [List.getElem?_map, hx]; rfl)
      have hb := spent_le HI.out (i + 1)
      rw [hs] at hb
      obtain ⟨s, hse⟩ : ∃ s, s = ((S.acc.map (·.s)).take i).sum := ⟨_, rfl⟩
      rw [← hse] at hb hs ⊢
      have hU' := HU.out
      have hw : wrap64 (s + x.s) = s + x.s := w64 (by omega) (by omega)
      have Hs := Lib.hid hs
      clear hf hx hb hs hU' hse
      go_wp2_with fail
      go_roundw
      case rel => exact ⟨i + 1, hlt, by go_num, by rw [Hs.out, hw], Hf.out.alloc _⟩
      case measure => simp [intOf]; omega
    · obtain rfl : i = n := by omega
      clear hf hlt
      go_wp2_with fail
      go_ret
      refine ⟨?_, Hf.out⟩
      unfold eSpent
      rw [List.take_of_length_le (by rw [List.length_map, ← Hn.out]; exact Nat.le_refl _)]
      rfl
end Go.Proofs.Ytdjaofkbgkifkaa

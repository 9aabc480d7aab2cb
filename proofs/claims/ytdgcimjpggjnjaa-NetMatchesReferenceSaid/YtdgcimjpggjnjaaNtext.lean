/- Texts: whether two lists of texts are equal. -/
import Derived.Test.YtdgcimjpggjnjaaNabs
import Derived.Deep.LoopGhost
set_option linter.unusedVariables false
set_option linter.unusedSimpArgs false
namespace Go.Proofs.Ytdgcimjpggjnjaa
open Go.RowKit

/-- A slice reads as texts. -/
def RdS (w : World) (v : Value) (xs : List ByteArray) : Prop :=
  ∃ A n cap, v = .slice A n cap ∧ n = xs.length ∧ n ≤ 9007199254740992 ∧ (0 < n → ∃ g off, A = some ⟨g, off, none⟩ ∧ ∀ (j : Nat) (x : ByteArray), xs[j]? = some x → w.cell? ⟨g, off + j, none⟩ = some (.string x))
theorem Row.rdS {w : World} {v : Value} {xs : List ByteArray} (h : Row w 1 v (strs xs)) (hl : xs.length ≤ 9007199254740992) : RdS w v xs := by
  obtain ⟨A, n, cap, rfl, hn⟩ := h.form
  have hn' : n = xs.length := by rw [strs_length] at hn; omega
  refine ⟨A, n, cap, rfl, hn', by omega, fun h0 => ?_⟩
  obtain ⟨g, off, rfl, _, _⟩ := h.at_ h0
  refine ⟨g, off, rfl, fun j x hj => ?_⟩
  obtain ⟨a, ha, hc⟩ := h.cell j (.string x) (by simp [strs, hj])
  cases ha
  have e : (⟨g, off, none⟩ : Addr).add j = ⟨g, off + j, none⟩ := by unfold Addr.add; split <;> simp_all
  rwa [e] at hc
theorem RdS.keep {w w' : World} {v : Value} {xs : List ByteArray} (h : RdS w v xs) (hk : ∀ k, k < w.heap.size → (∃ A n c, v = .slice (some A) n c ∧ A.block = k) → w'.heap[k]? = w.heap[k]?) : RdS w' v xs := by
  obtain ⟨A, n, cap, rfl, hn, hl, h0⟩ := h
  refine ⟨A, n, cap, rfl, hn, hl, fun hp => ?_⟩
  obtain ⟨g, off, rfl, hc⟩ := h0 hp
  refine ⟨g, off, rfl, fun j x hj => ?_⟩
  have := hc j x hj
  have hlt := World.block_lt_of_cell? _ _ this
  rw [World.cell?_of_block (hk g hlt ⟨_, _, _, rfl, rfl⟩)]
  exact this
theorem RdS.fr0 {w w' : World} {v : Value} {xs : List ByteArray} (h : RdS w v xs) (hf : Fr None' w w') : RdS w' v xs := h.keep fun k hk _ => hf.block k hk (fun h => h)

theorem toList_inj {x y : ByteArray} (h : x.toList = y.toList) : x = y := by
  rw [ByteArray.toList_eq, ByteArray.toList_eq] at h
  obtain ⟨⟨x⟩⟩ := x
  obtain ⟨⟨y⟩⟩ := y
  simp at h
  rw [h]
theorem beq_ne {x y : ByteArray} (h : x ≠ y) : (x.toList == y.toList) = false := beq_eq_false_iff_ne.2 (fun e => h (toList_inj e))
theorem beq_same (x : ByteArray) : (x.toList == x.toList) = true := by simp
theorem texts_ne {xs ys : List ByteArray} (v u : Value) (w : World) (hv : RdS w v xs) (hu : RdS w u ys) (hne : xs.length ≠ ys.length) :
    Calls Try.prog 13 #[v, u] w fun e w' => e = .returned (.bool false) ∧ Fr None' w w' := by
  obtain ⟨A, n, cap, rfl, hn, hl, h0⟩ := hv
  obtain ⟨A', m, cap', rfl, hm, hl', h0'⟩ := hu
  have hb : ((n : Int) == (m : Int)) = false := by rw [beq_eq_false_iff_ne]; omega
  have hb' : ((n : Int) != (m : Int)) = true := by rw [bne_iff_ne]; omega
  clear h0 h0' hne hn hm
  go_enter Try.func13, Try.ntmps13
  go_wp2_with fail
  go_ret
  exact ⟨rfl, Fr.refl _ _⟩

theorem take_succ_eq {xs ys : List ByteArray} {k : Nat} {x : ByteArray} (h : xs.take k = ys.take k) (h1 : xs[k]? = some x) (h2 : ys[k]? = some x) : xs.take (k + 1) = ys.take (k + 1) := by
  rw [List.take_add_one, List.take_add_one, h, h1, h2]
theorem ne_of_get {xs ys : List ByteArray} {k : Nat} {x y : ByteArray} (h1 : xs[k]? = some x) (h2 : ys[k]? = some y) (he : x ≠ y) : decide (xs = ys) = false := by
  rw [decide_eq_false_iff_not]
  rintro rfl
  rw [h1] at h2
  exact he (by simpa using h2)

theorem texts_eq {xs ys : List ByteArray} (v u : Value) (w : World) (hv : RdS w v xs) (hu : RdS w u ys) (hne : xs.length = ys.length) :
    Calls Try.prog 13 #[v, u] w fun e w' => e = .returned (.bool (decide (xs = ys))) ∧ Fr None' w w' := by
  obtain ⟨A, n, cap, rfl, hn, hl, h0⟩ := hv
  obtain ⟨A', m, cap', rfl, hm, hl', h0'⟩ := hu
  obtain rfl : n = m := by omega
  have H0 := Lib.hid h0
  have H0' := Lib.hid h0'
  have Hn := Lib.hid hn
  have Hm := Lib.hid hm
  have hb : ((n : Int) == (n : Int)) = true := by simp
  have hb' : ((n : Int) != (n : Int)) = false := by simp
  clear h0 h0' hne hl' hn hm
  go_enter Try.func13, Try.ntmps13
  go_wp2_with fail
  go_loopw [5] (fun i wr => ∃ k : Nat, k ≤ n ∧ i = .int .i64 k ∧ xs.take k = ys.take k ∧ Fr None' w wr) (fun i _ => n - (intOf i).toNat)
  case atStart => exact ⟨0, Nat.zero_le _, rfl, by simp, Fr.refl _ _⟩
  case round =>
    obtain ⟨k, hk, rfl, htk, hf⟩ := hrel
    by_cases hlt : k < n
    · obtain ⟨x, hx⟩ : ∃ x, xs[k]? = some x := ⟨_, List.getElem?_eq_getElem (by rw [← Hn.out]; exact hlt)⟩
      obtain ⟨y, hy⟩ : ∃ y, ys[k]? = some y := ⟨_, List.getElem?_eq_getElem (by rw [← Hm.out]; exact hlt)⟩
      obtain ⟨g, off, rfl, hc⟩ := H0.out (by omega)
      obtain ⟨g', off', rfl, hc'⟩ := H0'.out (by omega)
      have c1 := hf.cell (hc k x hx) (fun h => h)
      have c2 := hf.cell (hc' k y hy) (fun h => h)
      have hki : (k : Int) < (n : Int) := by omega
      have hk0 : (0 : Int) ≤ (k : Int) := by omega
      have Htk := Lib.hid htk
      have Hf := Lib.hid hf
      have H1 := Lib.hid hx
      have H2 := Lib.hid hy
      clear htk hf hc hc' hk hx hy
      by_cases hxy : x = y
      · subst hxy
        have hbx := beq_same x
        go_wp2_with fail
        go_quiet (fail)
        go_wp2_with fail
        go_roundw
        case rel => exact ⟨k + 1, by omega, by go_num, take_succ_eq Htk.out H1.out H2.out, Hf.out.drewN _⟩
        case measure => simp [intOf]; omega
      · have hbx := beq_ne hxy
        have Hxy := Lib.hid hxy
        clear hxy
        go_wp2_with fail
        go_quiet (fail)
        go_wp2_with fail
        go_ret
        exact ⟨by rw [ne_of_get H1.out H2.out Hxy.out]; rfl, Hf.out.drewN _⟩
    · have Hf := Lib.hid hf
      have hkn : n ≤ k := by omega
      have hall : decide (xs = ys) = true := by
        rw [List.take_of_length_le (by rw [← Hn.out]; omega), List.take_of_length_le (by rw [← Hm.out]; omega)] at htk
        simpa using htk
      have Hall := Lib.hid hall
      clear hf hall htk
      go_wp2_with fail
      go_ret
      exact ⟨by rw [Hall.out]; rfl, Hf.out⟩
theorem texts_any {xs ys : List ByteArray} (v u : Value) (w : World) (hv : RdS w v xs) (hu : RdS w u ys) :
    Calls Try.prog 13 #[v, u] w fun e w' => e = .returned (.bool (decide (xs = ys))) ∧ Fr None' w w' := by
  by_cases hl : xs.length = ys.length
  · exact texts_eq v u w hv hu hl
  · refine (texts_ne v u w hv hu hl).mono ?_
    rintro e w' ⟨he, hf⟩
    refine ⟨?_, hf⟩
    have : decide (xs = ys) = false := by
      rw [decide_eq_false_iff_not]
      rintro rfl
      exact hl rfl
    rw [this]; exact he
end Go.Proofs.Ytdgcimjpggjnjaa

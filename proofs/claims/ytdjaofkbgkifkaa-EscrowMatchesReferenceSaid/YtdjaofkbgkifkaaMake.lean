/- make, and a []byte read as a string. -/
import Derived.Test.YtdjaofkbgkifkaaRow
import Derived.Laws.MakeOwn
import Derived.Laws.BytesArg
set_option linter.unusedVariables false
set_option linter.unusedSimpArgs false
namespace Go.Proofs.Ytdjaofkbgkifkaa
open Go.RowKit

theorem madeCells_one (z : Value) (n : Nat) : (madeCells #[z] n).toList = List.replicate n z := by
  apply List.ext_getElem?
  intro i
  by_cases h : i < n
  · simp [madeCells, h, Nat.mod_one]
  · simp [madeCells, h]
/-- make([]T, n), T of one cell. -/
theorem run_make_row {P : Program} (w : World) (t e : TypeId) (z : Value) (bytes : Nat) (ht : P.underlying t = some (.slice e))
    (hinfo : (P.info? e).map (fun i => (i.zero, i.size, i.bytes)) = some (some z, 1, bytes)) (hz : z.cells = #[z]) (kl kc : IntKind) (n : Nat) (hbytes : bytes * n ≤ 281474976710656) (h63 : n ≤ maxLen) :
    ∃ w', (Instr.makeSlice t (.int kl n) (.int kc n)).run P w = .ok (.slice (some ⟨w.heap.size, 0, none⟩) n n) w' ∧
      Row w' 1 (.slice (some ⟨w.heap.size, 0, none⟩) n n) (List.replicate n z) ∧ Fr None' w w' := by
  obtain ⟨i, hi, hh⟩ := Option.map_eq_some_iff.1 hinfo
  obtain ⟨h1, h2, h3⟩ : i.zero = some z ∧ i.size = 1 ∧ i.bytes = bytes := by simpa using hh
  have h63' : (n : Int) ≤ 9223372036854775807 := by simp [maxLen] at h63; omega
  have hb' : (i.bytes : Int) * (n : Int) ≤ 281474976710656 := by
    rw [h3]
    have h : ((bytes * n : Nat) : Int) ≤ 281474976710656 := by omega
    rwa [Int.natCast_mul] at h
  have hr := run_make (P := P) w t e i z ht hi h1 kl kc n n (by omega) (Int.le_refl _) hb' h63'
  simp only [Int.toNat_natCast, h2, Nat.mul_one, hz] at hr
  refine ⟨_, hr, ⟨_, n, n, rfl, by simp, Nat.le_refl _, h63, .inr ⟨w.heap.size, 0, _, e, rfl, heap_alloc_new w _, by simp [size_madeCells], ?_⟩⟩, (Fr.refl _ _).alloc _⟩
  rw [madeCells_one]
  simp
/-- string(b), b a row of bytes. -/
theorem run_convert_row {P : Program} (w : World) (src e dst : TypeId) (hs : P.underlying src = some (.slice e)) (he : P.underlying e = some (.int .u8)) (hd : P.underlying dst = some .string)
    (v : Value) (xs : List Int) (hv : Row w 1 v (xs.map (Value.int .u8))) : (convert src dst v).run P w = .ok (.string (strOfNums xs)) w := by
  have hv0 := hv
  obtain ⟨A, n, cap, rfl, h1, h2, h3, h4⟩ := hv
  simp at h1
  rcases h4 with rfl | ⟨g, off, cur, T, rfl, h5, h6, h7⟩
  · obtain rfl : n = 0 := by omega
    obtain rfl : xs = [] := List.length_eq_zero_iff.1 h1
    cases A with
    | none => exact run_convert_bytes_nil w src e hs he 0 0 dst hd
    | some a =>
      obtain ⟨g, off, fr⟩ := a
      rw [run_convert_bytes_string w src dst e _ 0 0 hs he hd, run_bytesToString w _ 0 0 [] rfl]
      · rfl
  · refine run_convert_bytes_arg w src e hs he g off n cap xs h1 (fun i hi => ?_) dst hd
    obtain ⟨a, ha, hc⟩ := hv0.cell i (.int .u8 (xs.getD i 0)) (by simp [List.getD, List.getElem?_eq_getElem (show i < xs.length by omega)])
    cases ha
    have ha : (⟨g, off, none⟩ : Addr).add i = ⟨g, off + i, none⟩ := by unfold Addr.add; split <;> simp_all
    rw [ha] at hc
    exact hc
theorem reads_one {w : World} {b : Nat} {u : Value} (h : w.cell? ⟨b, 0, none⟩ = some u) : ReadsAs w (some ⟨b, 0, none⟩) [u] := by
  intro j v hj
  match j, hj with
  | 0, hj =>
    cases hj
    exact ⟨_, rfl, h⟩
  | _ + 1, hj => cases hj
theorem reads_alloc (w : World) (u : Value) (T : TypeId) : ReadsAs (w.alloc (.cells #[u] T)) (some ⟨w.heap.size, 0, none⟩) [u] := reads_one (by simp)
end Go.Proofs.Ytdjaofkbgkifkaa

/- NetNil: the walk. -/
import Derived.Test.YtdgcimjpggjnjaaNhead
import Derived.Test.YtdgcimjpggjnjaaMake
set_option linter.unusedVariables false
set_option linter.unusedSimpArgs false
namespace Go.Proofs.Ytdgcimjpggjnjaa
open Go.RowKit

theorem info5 : (Try.prog.info? 5).map (fun i => (i.zero, i.size, i.bytes)) = some (some (.int .u8 0), 1, 1) := by kernel_rfl
def Z20 : List Int := List.replicate 20000 0
theorem Z20_len : Z20.length = 20000 := List.length_replicate
def T20 : ByteArray := strOfNums Z20
def T21 : ByteArray := strOfNums (Z20 ++ [120])
theorem T20_size : T20.size = 20000 := by rw [T20, strOfNums_size, Z20_len]
theorem T21_size : T21.size = 20001 := by rw [T21, strOfNums_size, List.length_append, Z20_len]; rfl
theorem nil1 : (nSend (NS.new 2) 0 1 T20).1 = 0 := by
  have : knowsB (NS.new 2).N 0 1 = true := by decide
  unfold nSend
  rw [this]
  simp [T20_size, NS.new]
theorem nil2 : (nSend (nSend (NS.new 2) 0 1 T20).2 0 1 T21).1 = 1 := by
  simp [nSend, T21_size]
theorem nil3 : (nWait (nSend (nSend (NS.new 2) 0 1 T20).2 0 1 T21).2 0 1) = [T20] := by
  have : knowsB 2 0 1 = true := by decide
  simp [nSend, this, T20_size, T21_size, NS.new, nWait, waitL, qset]
theorem make20 (w : World) : ∃ w', (Instr.makeSlice 49 (.int .i64 20000) (.int .i64 20000)).run Try.prog w = .ok (.slice (some ⟨w.heap.size, 0, none⟩) 20000 20000) w' ∧
      Row w' 1 (.slice (some ⟨w.heap.size, 0, none⟩) 20000 20000) (Z20.map (Value.int .u8)) ∧ Fr None' w w' := by
  have := run_make_row (P := Try.prog) w 49 5 (.int .u8 0) 1 Try.underlying49 info5 rfl .i64 .i64 20000 (by decide) (by simp [maxLen])
  have e : Z20.map (Value.int .u8) = List.replicate 20000 (.int .u8 0) := List.map_replicate
  rw [e]
  exact this

theorem netNil_any (a b : Int) (l g : Bool) (t : ByteArray) (w : World) (ht : t.size ≤ 9223372036854775807) :
    Calls Try.prog 6 #[.int .i64 a, .int .i64 b, .bool l, .bool g, .string t] w fun e w' => e = .returned (.bool true) ∧ Fr None' w w' := by
  go_enter Try.func6, Try.ntmps6
  go_wp2_with fail
  refine (head_any w).mono ?_
  rintro e w1 ⟨rfl, hf1⟩
  have Hf1 := Lib.hid hf1
  clear hf1
  go_wp2_with fail
  refine (deliver_nil a b l g w1).mono ?_
  rintro e w2 ⟨rfl, hf2⟩
  have Hf2 := Lib.hid (Hf1.out.trans0 hf2)
  clear Hf1 hf2
  go_wp2_with fail
  refine (send_nil a b t w2).mono ?_
  rintro e w3 ⟨rfl, hf3⟩
  have Hf3 := Lib.hid (Hf2.out.trans0 hf3)
  clear Hf2 hf3
  go_wp2_with fail
  refine (waiting_nil a b w3).mono ?_
  rintro e w4 ⟨he, hf4⟩
  rw [nilS] at he
  subst he
  have Hf4 := Lib.hid (Hf3.out.trans0 hf4)
  clear Hf3 hf4
  go_wp2_with fail
  refine (cut_calls _ a b (fun n w' => n = 1 ∧ Fr None' w4 w') w4 ((turn_nil a b true w4).mono ?_)).mono ?_
  · rintro e w' ⟨he, hf⟩; exact ⟨1, he, rfl, hf⟩
  rintro e w5 ⟨n, rfl, rfl, hf5⟩
  have Hf5 := Lib.hid (Hf4.out.trans0 hf5)
  clear Hf4 hf5
  go_wp2_with fail
  refine (heal_calls _ a b (fun n w' => n = 1 ∧ Fr None' w5 w') w5 ((turn_nil a b false w5).mono ?_)).mono ?_
  · rintro e w' ⟨he, hf⟩; exact ⟨1, he, rfl, hf⟩
  rintro e w6 ⟨n, rfl, rfl, hf6⟩
  have Hf6 := Lib.hid (Hf5.out.trans0 hf6)
  clear Hf5 hf6
  go_wp2_with fail
  refine (s_new 2 w6 (by decide) (by decide)).mono ?_
  rintro e w7 ⟨g, rfl, hn7, hf7⟩
  have hb7 : w6.heap.size ≤ w7.heap.size := hf7.size
  have Hn7 : Hid (NetS w7 (Own w6.heap.size w7) g (NS.new 2)) := Lib.hid (hn7.mono (fun k hk => by rcases hk with hk | hk; exact hk.elim; exact hk))
  have Hf7 := Lib.hid hf7
  clear hn7 hf7
  obtain ⟨w8, hmk, hrow8, hf8⟩ := make20 w7
  have hcv8 := run_convert_row (P := Try.prog) w8 49 5 9 Try.underlying49 Try.underlying5 Try.underlying9 _ _ hrow8
  have Hn8 := Lib.hid (Hn7.out.fr hf8 (fun _ _ h => h))
  have Hf8 := Lib.hid (Hf7.out.trans0 hf8)
  have Hrow8 := Lib.hid hrow8
  have hb8 : w7.heap.size ≤ w8.heap.size := hf8.size
  have Hlt : Hid (w7.heap.size < w8.heap.size) := Lib.hid (hrow8.lt (by simp [rowBlk]))
  clear hrow8 hf8 Hf7 Hn7
  go_wp2_with fail
  have hlow : ∀ i, i < w6.heap.size → Own w6.heap.size w7 i → False := fun i hi hk => absurd hk.1 (by omega)
  refine (s_send Hn8.out 0 1 T20 (by rw [T20_size]; decide)).mono ?_
  rw [nil1]
  rintro e w9 ⟨rfl, hn9, hf9⟩
  have Hrow9 := Lib.hid (Hrow8.out.fr hf9 (fun k hk h => by simp [rowBlk] at hk; subst hk; exact absurd h.2 (by omega)))
  have Hn9 : Hid (NetS w9 (fun k => Own w6.heap.size w7 k ∨ (w8.heap.size ≤ k ∧ k < w9.heap.size)) g (nSend (NS.new 2) 0 1 T20).2) := Lib.hid hn9
  have Hf9 := Lib.hid (Hf8.out.trans hf9 (fun i hi hk => (hlow i hi hk).elim))
  have hb9 : w8.heap.size ≤ w9.heap.size := hf9.size
  clear hn9 hf9 Hn8 Hrow8 Hf8 hcv8 hmk
  go_wp2_with (at_builtin; refine wpList_append_row _ rfl _ _ 49 5 rfl (.int .u8 0) 1 1 Try.underlying49 info5 rfl (by decide) _ (Z20.map (Value.int .u8)) rfl ?h1 (some ⟨w9.heap.size, 0, none⟩) 1 1 [.int .u8 120] rfl rfl ?h2 ?h3 ?h4 ?h5 ?_)
  case h1 => exact Row.fr Hrow9.out ((Fr.refl None' w9).alloc _) (fun _ _ h => h)
  case h2 => exact reads_alloc w9 _ _
  case h3 => intro u hu; simp at hu; subst hu; rfl
  case h4 => rw [List.length_map, Z20_len]; decide
  case h5 => rw [List.length_map, Z20_len]; decide
  intro v10 w10 hr10 hg10 hb10
  have hrow10 : Row w10 1 v10 ((Z20 ++ [120]).map (Value.int .u8)) := by rw [List.map_append]; exact hr10
  have hcv10 := run_convert_row (P := Try.prog) w10 49 5 9 Try.underlying49 Try.underlying5 Try.underlying9 _ _ hrow10
  have hf10 : Fr (fun k => w6.heap.size ≤ k ∧ ¬ Own w6.heap.size w7 k ∧ k < w8.heap.size) w9 w10 := ((Fr.refl _ w9).alloc _).grown hg10 (fun k hk => by simp [rowBlk] at hk; subst hk; exact .inl ⟨by omega, fun h => absurd h.2 (by omega), Hlt.out⟩)
  have hb10' : w9.heap.size ≤ w10.heap.size := hf10.size
  have Hn10 := Lib.hid (Hn9.out.fr hf10 (fun k hk h => by rcases hk with hk | hk; exact h.2.1 hk; exact absurd h.2.2 (by omega)))
  have Hf10 := Lib.hid (Hf9.out.trans hf10 (fun i hi hk => absurd hk.1 (by have := Hf9.out; omega)))
  clear hr10 hg10 hb10 hrow10 hf10 Hn9 Hf9 Hrow9
  go_wp2_with fail
  refine (s_send Hn10.out 0 1 T21 (by rw [T21_size]; decide)).mono ?_
  rw [nil2]
  rintro e w11 ⟨rfl, hn11, hf11⟩
  have Hn11 := Lib.hid hn11
  have Hf11 := Lib.hid (Hf10.out.trans hf11 (fun i hi hk => by rcases hk with hk | hk; exact (hlow i hi hk).elim; exact absurd hk.1 (by omega)))
  clear hn11 hf11 Hn10 Hf10 hcv10
  go_wp2_with fail
  refine (s_wait Hn11.out ((QB.send (QB.send (QB.new 2) 0 1 T20) 0 1 T21)) 0 1).mono ?_
  rw [nil3]
  rintro e w12 ⟨v, rfl, hr12, hk12, hf12⟩
  obtain ⟨A, n, cap, rfl, hl⟩ := hr12.form
  obtain rfl : n = 1 := by rw [strs_length] at hl; simp at hl; omega
  have Hf12 := Lib.hid (Hf11.out.trans0 hf12)
  clear hr12 hk12 hf12 hl Hf11 Hn11
  go_wp2_with fail
  go_ret
  exact ⟨rfl, Hf6.out.trans0 Hf12.out⟩

theorem netNil_walk (w : World) (a : Int) (_ : (Lit.int .i64 a).wf = true) (b : Int) (_ : (Lit.int .i64 b).wf = true) (l g : Bool) (t : ByteArray) (ht : t.size ≤ 140737488351232) :
    Calls Try.prog 6 #[.int .i64 a, .int .i64 b, .bool l, .bool g, .string t] w fun e w' => e = .returned (.bool true) ∧ Below w.heap.size w w' :=
  (netNil_any a b l g t w (by omega)).mono fun e w' ⟨he, hf⟩ => ⟨he, hf.below (fun _ h => h.elim) (Nat.le_refl _)⟩
end Go.Proofs.Ytdgcimjpggjnjaa

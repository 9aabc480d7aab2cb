/- The reference network: Heal, Cut. -/
import Derived.Test.YtdgcimjpggjnjaaNref4
set_option linter.unusedVariables false
set_option linter.unusedSimpArgs false
namespace Go.Proofs.Ytdgcimjpggjnjaa
open Go.RowKit

def rHeal (S : RS) (a b : Int) : Int × RS :=
  if knowsB S.N a b then match cutN S.G a b with
    | none => (12, S)
    | some k => (0, ⟨S.N, S.L, S.G.take k ++ S.G.drop (k + 1)⟩)
  else (1, S)
def rCut (S : RS) (a b : Int) : Int × RS :=
  if knowsB S.N a b then
    if 0 ≤ cutI S.G a b then (12, S) else (0, ⟨S.N, S.L.filter (fun m => decide (cutI (S.G ++ [(a, b)]) m.a m.b < 0)), S.G ++ [(a, b)]⟩)
  else (1, S)
theorem cutN_lt {G : List (Int × Int)} {a b : Int} {k : Nat} (h : cutN G a b = some k) : k < G.length := by
  rw [cutN, List.findIdx?_eq_some_iff_getElem] at h
  exact h.1

set_option maxRecDepth 10000 in
set_option maxHeartbeats 2000000 in
theorem rheal_any {w : World} {F : Nat → Prop} {g : Nat} {S : RS} (hr : RefIs w F g S) (a b : Int) :
    Calls Try.prog 29 #[.pointer (some ⟨g, 0, none⟩), .int .i64 a, .int .i64 b] w fun e w' => e = .returned (.int .i64 (rHeal S a b).1) ∧ RefIs w' (Ext F w w') g (rHeal S a b).2 ∧ Fr F w w' := by
  have Hr0 := Lib.hid hr
  obtain ⟨vL, vG, h⟩ := hr
  obtain ⟨A, n, cap, rfl, hn⟩ := h.rdG.len
  obtain ⟨c0, c1, c2, _⟩ := h.cells
  have hn1 : n ≤ 1000 := by have := h.bg; omega
  have hcap : n ≤ cap := by
    obtain ⟨_, _, _, he, _, h2, _⟩ := h.rg
    cases he; exact h2
  have H := Lib.hid h
  have Hn := Lib.hid hn
  clear h hn
  cases hk : knowsB S.N a b with
  | false =>
    have hp := pair_ok S.N a b g w c0
    rw [hk] at hp
    have hdel : rHeal S a b = (1, S) := by simp [rHeal, hk]
    have Hdel := Lib.hid hdel
    have HP := Lib.hid hp
    clear hp hk hdel
    go_enter Try.func29, Try.ntmps29
    go_wp2_with fail
    refine HP.out.mono ?_
    rintro e w1 ⟨rfl, rfl⟩
    go_wp2_with fail
    go_ret
    exact ⟨by rw [Hdel.out] <;> rfl, by rw [Hdel.out]; exact Hr0.out.keep (Fr.refl _ _), fr_none (Fr.refl _ _)⟩
  | true =>
    have hp := pair_ok S.N a b g w c0
    rw [hk] at hp
    have HP := Lib.hid hp
    have Hk := Lib.hid hk
    have hc := rcut_any Hr0.out a b
    cases hcn : cutN S.G a b with
    | none =>
      rw [cutI, hcn] at hc
      have hdel : rHeal S a b = (12, S) := by simp [rHeal, hk, hcn]
      have Hdel := Lib.hid hdel
      have HC := Lib.hid hc
      clear hp hk hdel hc hcn
      go_enter Try.func29, Try.ntmps29
      go_wp2_with fail
      refine HP.out.mono ?_
      rintro e w1 ⟨rfl, rfl⟩
      go_wp2_with fail
      refine HC.out.mono ?_
      rintro e w2 ⟨rfl, hf2⟩
      have Hf2 := Lib.hid hf2
      clear hf2
      go_wp2_with fail
      go_ret
      exact ⟨by rw [Hdel.out] <;> rfl, by rw [Hdel.out]; exact Hr0.out.keep Hf2.out, fr_none Hf2.out⟩
    | some k =>
      rw [cutI, hcn] at hc
      have hkn : k < S.G.length := cutN_lt hcn
      have hkn' : k < n := by rw [Hn.out]; exact hkn
      obtain ⟨⟨px, py⟩, hp0⟩ : ∃ p, S.G[k]? = some p := ⟨_, List.getElem?_eq_getElem hkn⟩
      obtain ⟨gl, off, rfl, hgl, f0, f1⟩ := RdG.get H.out.rdG hp0
      have hdel : rHeal S a b = (0, ⟨S.N, S.L, S.G.take k ++ S.G.drop (k + 1)⟩) := by simp [rHeal, hk, hcn]
      have Hdel := Lib.hid hdel
      have HC := Lib.hid hc
      have hki : (k : Int) < (n : Int) := by omega
      have hk0 : ¬ ((k : Int) < 0) := by omega
      clear hp hk hdel hc hcn hp0 f0 f1 hkn
      have hs1 : ∀ u : World, (Instr.slice 62 (.slice (some ⟨gl, off, none⟩) n cap) none (some (.int .i64 (k : Int))) none).run Try.prog u = .ok (.slice (some ⟨gl, off, none⟩) k cap) u := fun u => run_slice_hi u 62 57 2 Try.underlying62 (by kernel_rfl) _ n cap .i64 k (by omega)
      have hs2 : ∀ u : World, (Instr.slice 62 (.slice (some ⟨gl, off, none⟩) n cap) (some (.int .i64 ((k : Int) + 1))) none none).run Try.prog u = .ok (.slice (if cap = k + 1 then some ⟨gl, off, none⟩ else (some (⟨gl, off, none⟩ : Addr)).map (·.add ((k + 1) * 2))) (n - (k + 1)) (cap - (k + 1))) u := fun u => by
        have := run_slice_lo u 62 57 2 Try.underlying62 (by kernel_rfl) (some ⟨gl, off, none⟩) n cap .i64 (k + 1) (by omega)
        exact this
      obtain ⟨A2, hA2⟩ : ∃ A2, A2 = (if cap = k + 1 then some ⟨gl, off, none⟩ else (some (⟨gl, off, none⟩ : Addr)).map (·.add ((k + 1) * 2))) := ⟨_, rfl⟩
      rw [← hA2] at hs2
      have hwk : wrap64 ((k : Int) + 1) = (k : Int) + 1 := by unfold wrap64; omega
      have hwk' : IntKind.i64.wrap ((k : Int) + 1) = (k : Int) + 1 := by rw [IntKind.wrap_i64]; omega
      have HA2 := Lib.hid hA2
      clear hA2
      have Hl1 : Hid (((S.G.take k).flatMap lcells).length = k * 2) := Lib.hid (by rw [flat_length _ 2 lcells_len, List.length_take, Nat.min_eq_left (by rw [← Hn.out]; omega)])
      have Hone1 : Hid (∀ u ∈ (S.G.take k).flatMap lcells, u.oneCell' = true) := Lib.hid (flat_one lcells_one _)
      have Hc1 : Hid (([] : List Value).length + ((S.G.take k).flatMap lcells).length ≤ 9007199254740992) := Lib.hid (by rw [Hl1.out]; simp; omega)
      have Hd1 : Hid (((([] : List Value).length + ((S.G.take k).flatMap lcells).length) / 2) * 16 ≤ 140737488355328) := Lib.hid (by rw [Hl1.out]; simp; omega)
      have Hl2 : Hid (((S.G.drop (k + 1)).flatMap lcells).length = (n - (k + 1)) * 2) := Lib.hid (by rw [flat_length _ 2 lcells_len, List.length_drop, Hn.out])
      have Hone2 : Hid (∀ u ∈ (S.G.drop (k + 1)).flatMap lcells, u.oneCell' = true) := Lib.hid (flat_one lcells_one _)
      have Hc2 : Hid (([] ++ (S.G.take k).flatMap lcells).length + ((S.G.drop (k + 1)).flatMap lcells).length ≤ 9007199254740992) := Lib.hid (by rw [List.nil_append, Hl1.out, Hl2.out]; omega)
      have Hd2 : Hid ((([] ++ (S.G.take k).flatMap lcells).length + ((S.G.drop (k + 1)).flatMap lcells).length) / 2 * 16 ≤ 140737488355328) := Lib.hid (by rw [List.nil_append, Hl1.out, Hl2.out]; omega)
      go_enter Try.func29, Try.ntmps29
      go_wp2_with fail
      refine HP.out.mono ?_
      rintro e w1 ⟨rfl, rfl⟩
      go_wp2_with fail
      refine HC.out.mono ?_
      rintro e w5 ⟨rfl, hf5⟩
      have z1 := hf5.cell c2 (fun h => h)
      have H5 := Lib.hid (H.out.fr hf5 (fun _ _ h => h))
      have Hf5 := Lib.hid hf5
      clear hf5
      go_wp2_with fail
      have z2 := ((Fr.refl None' w5).alloc (.cells #[] 57)).cell z1 (fun h => h)
      have hrowL : Row (w5.alloc (.cells #[] 57)).drew 2 (.slice (some ⟨gl, off, none⟩) n cap) (S.G.flatMap lcells) := H5.out.rg.fr ((Fr.refl None' w5).alloc _).drew (fun _ _ h => h)
      have Hrd1 := Lib.hid (reads_lo lcells_len hrowL k)
      clear hrowL
      go_region_law
        (first | (refine step_append_row ((w5.alloc (.cells #[] 57)).drew) rfl (.tmp 20) (.tmp 26) 62 57 rfl (.agg #[.int .i64 0, .int .i64 0]) 2 16 Try.underlying62 info57 rfl (by decide) (.slice (some ⟨w5.heap.size, 0, none⟩) 0 0) [] rfl (Row.nil _ _ _) (some ⟨gl, off, none⟩) k cap ((S.G.take k).flatMap lcells) rfl Hl1.out Hrd1.out Hone1.out Hc1.out Hd1.out ?_
                  intro v6 w6 hr6 hg6 hb6
                  obtain ⟨A6, n6, c6, rfl, hn6⟩ := hr6.form
                  have hf6 : Fr None' w5 w6 := ((Fr.refl None' w5).alloc (.cells #[] 57)).drew.grown hg6 (fun j hj => by simp [rowBlk] at hj)
                  have q1 := hf6.cell z1 (fun h => h)
                  have Hrd2 := Lib.hid (reads_hi lcells_len (by decide) (H5.out.rg.fr hf6 (fun _ _ h => h)) (k + 1) (by omega))
                  have Hr6 := Lib.hid hr6
                  have Hf6 := Lib.hid hf6
                  have Hb6 := Lib.hid hb6
                  clear hr6 hg6 hb6 hf6)
               | (refine step_append_row w6 rfl (.tmp 27) (.tmp 34) 62 57 rfl (.agg #[.int .i64 0, .int .i64 0]) 2 16 Try.underlying62 info57 rfl (by decide) (.slice A6 n6 c6) ([] ++ (S.G.take k).flatMap lcells) rfl Hr6.out A2 (n - (k + 1)) (cap - (k + 1)) ((S.G.drop (k + 1)).flatMap lcells) rfl Hl2.out (by rw [HA2.out]; exact Hrd2.out) Hone2.out Hc2.out Hd2.out ?_
                  intro v7 w7 hr7 hg7 hb7
                  obtain ⟨A7, n7, c7, rfl, hn7⟩ := hr7.form
                  have hf7 := Hf6.out.grown hg7 (fun j hj => .inr (app_blk Hb6.out ((Fr.refl None' w5).alloc (.cells #[] 57)).drew.size hj))
                  obtain ⟨_, _, q2, qz⟩ := three_cells (hf7.heap H5.out.obj (fun h => h))
                  have Hr7 := Lib.hid hr7
                  have Hf7 := Lib.hid hf7
                  have Hb7 := Lib.hid hb7
                  clear hr7 hg7 hb7 hf7))
      all_goals (
        go_wp2_with fail
        have hput := H5.out.putG (G' := S.G.take k ++ S.G.drop (k + 1)) (Hf7.out.mono (fun _ _ h => h.elim)) (by rw [List.flatMap_append]; simpa using Hr7.out) (fun j hj => .inr (by
          rcases Hb7.out with h | h
          · rw [h] at hj; exact app_blk Hb6.out ((Fr.refl None' w5).alloc (.cells #[] 57)).drew.size hj
          · rw [h] at hj; cases hj; exact Hf6.out.size)) (by have := H5.out.bg; rw [List.length_append, List.length_take, List.length_drop]; omega)
        have hs5 := Hf5.out.size
        go_ret
        refine ⟨by rw [Hdel.out] <;> rfl, ?_, ?_⟩
        · rw [Hdel.out]
          exact hput.1.mono (fun j hj => by
            rcases hj with hj | hj
            · exact .inl hj
            · exact .inr ⟨by omega, hj.2⟩)
        · exact (fr_none Hf5.out).trans hput.2 (fun _ _ h => h))
end Go.Proofs.Ytdgcimjpggjnjaa

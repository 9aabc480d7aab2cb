/- The reference network: Deliver. -/
import Derived.Test.YtdgcimjpggjnjaaNref3
import Derived.Deep.RegionLaw
set_option linter.unusedVariables false
set_option linter.unusedSimpArgs false
namespace Go.Proofs.Ytdgcimjpggjnjaa
open Go.RowKit

def rDeliver (S : RS) (a b : Int) (lost again : Bool) : (ByteArray × Bool) × RS :=
  if knowsB S.N a b then
    match S.L.findIdx? (toB a b) with
    | none => ((⟨#[]⟩, false), S)
    | some k => match S.L[k]? with
      | none => ((⟨#[]⟩, false), S)
      | some m => (if lost then (⟨#[]⟩, false) else (m.t, true), if lost || !again then ⟨S.N, S.L.take k ++ S.L.drop (k + 1), S.G⟩ else S)
  else ((⟨#[]⟩, false), S)
theorem del_hit {L : List Msg} {a b : Int} {k : Nat} {m : Msg} (h : ∀ x ∈ L.take k, toB a b x = false) (hp : L[k]? = some m) (hb : toB a b m = true) : L.findIdx? (toB a b) = some k := by
  have hk : k < L.length := (List.getElem?_eq_some_iff.1 hp).1
  rw [List.findIdx?_eq_some_iff_getElem]
  refine ⟨hk, ?_, fun j hj => ?_⟩
  · rw [List.getElem?_eq_getElem hk] at hp
    cases hp
    exact hb
  · have := h L[j] (by rw [List.mem_take_iff_getElem]; exact ⟨j, by omega, rfl⟩)
    simp [this]
theorem reads_take {w : World} {A : Option Addr} {xs : List Value} (h : ReadsAs w A xs) (n : Nat) : ReadsAs w A (xs.take n) := fun j u hj => by
  rw [List.getElem?_take] at hj
  split at hj
  · exact h j u hj
  · cases hj
theorem flat_take {α : Type} (f : α → List Value) (size : Nat) (hf : ∀ x, (f x).length = size) : ∀ (l : List α) (k : Nat), (l.flatMap f).take (k * size) = (l.take k).flatMap f
  | [], k => by simp
  | x :: l, 0 => by simp
  | x :: l, k + 1 => by
    have e : (k + 1) * size = size + k * size := by rw [Nat.add_mul]; omega
    rw [List.take_succ_cons, List.flatMap_cons, List.flatMap_cons, List.take_append, hf, List.take_of_length_le (by rw [hf, e]; omega), e]
    have e2 : size + k * size - size = k * size := by omega
    rw [e2, flat_take f size hf l k]
theorem flat_drop {α : Type} (f : α → List Value) (size : Nat) (hf : ∀ x, (f x).length = size) : ∀ (l : List α) (k : Nat), (l.flatMap f).drop (k * size) = (l.drop k).flatMap f
  | [], k => by simp
  | x :: l, 0 => by simp
  | x :: l, k + 1 => by
    have e : (k + 1) * size = size + k * size := by rw [Nat.add_mul]; omega
    rw [List.drop_succ_cons, List.flatMap_cons, List.drop_append, hf, List.drop_of_length_le (by rw [hf, e]; omega), e]
    have e2 : size + k * size - size = k * size := by omega
    rw [e2, flat_drop f size hf l k]
    rfl
theorem flat_one {α : Type} {f : α → List Value} (hf : ∀ x, ∀ u ∈ f x, u.oneCell' = true) (l : List α) : ∀ u ∈ l.flatMap f, u.oneCell' = true := by
  intro u hu
  obtain ⟨x, _, hu⟩ := List.mem_flatMap.1 hu
  exact hf x u hu
theorem Msg.one (m : Msg) : ∀ u ∈ m.cells, u.oneCell' = true := by intro u hu; simp [Msg.cells] at hu; rcases hu with rfl | rfl | rfl <;> rfl
theorem lcells_one (p : Int × Int) : ∀ u ∈ lcells p, u.oneCell' = true := by intro u hu; simp [lcells] at hu; rcases hu with rfl | rfl <;> rfl
/-- What [:k] and [k+1:] of a row read as. -/
theorem reads_lo {α : Type} {f : α → List Value} {size : Nat} (hf : ∀ x, (f x).length = size) {w : World} {A : Option Addr} {n cap : Nat} {l : List α} (h : Row w size (.slice A n cap) (l.flatMap f)) (k : Nat) : ReadsAs w A ((l.take k).flatMap f) := by
  rw [← flat_take f size hf]
  exact reads_take h.reads _
theorem reads_hi {α : Type} {f : α → List Value} {size : Nat} (hf : ∀ x, (f x).length = size) (hs : 0 < size) {w : World} {A : Option Addr} {n cap : Nat} {l : List α} (h : Row w size (.slice A n cap) (l.flatMap f)) (k : Nat) (hk : k ≤ n) : ReadsAs w (if cap = k then A else A.map (·.add (k * size))) ((l.drop k).flatMap f) := by
  have h1 : n ≤ cap := by
    obtain ⟨_, _, _, he, _, h2, _⟩ := h
    cases he; exact h2
  have hl : n = l.length := by
    obtain ⟨_, _, _, he, h2, _⟩ := h
    cases he
    rw [flat_length f size hf] at h2
    exact (Nat.eq_of_mul_eq_mul_right hs h2).symm
  have := h.sub k n cap hk (Nat.le_refl _) h1 (Nat.le_refl _)
  rw [flat_drop f size hf, List.take_of_length_le (by rw [flat_length f size hf, List.length_drop, hl]; exact Nat.le_refl _)] at this
  exact this.reads

theorem app_blk {v6 : Value} {A : Option Addr} {n5 n6 n j : Nat} (h : rowBlk v6 = rowBlk (.slice A n 0) ∨ rowBlk v6 = some n6) (hle : n5 ≤ n6) (hj : rowBlk v6 = some j) : n5 ≤ j := by
  rcases h with h | h
  · rw [h, rowBlk_zero] at hj; cases hj
  · rw [h] at hj; cases hj; exact hle
theorem rdel_no {w : World} {F : Nat → Prop} {g : Nat} {S : RS} (hr : RefIs w F g S) (a b : Int) (lost again : Bool) (hk : knowsB S.N a b = false) :
    Calls Try.prog 27 #[.pointer (some ⟨g, 0, none⟩), .int .i64 a, .int .i64 b, .bool lost, .bool again] w fun e w' => e = .returned (.tuple #[.string ⟨#[]⟩, .bool false]) ∧ Fr None' w w' := by
  obtain ⟨vL, vG, h⟩ := hr
  obtain ⟨c0, c1, c2, _⟩ := h.cells
  have hp := pair_ok S.N a b g w c0
  rw [hk] at hp
  have HP := Lib.hid hp
  clear h hp hk
  go_enter Try.func27, Try.ntmps27
  go_wp2_with fail
  refine HP.out.mono ?_
  rintro e w' ⟨rfl, rfl⟩
  go_wp2_with fail
  exact ⟨rfl, _, results_tmp2 rfl _ _ _, rfl, Fr.refl _ _⟩
set_option maxRecDepth 10000 in
set_option maxHeartbeats 2000000 in
theorem rdel_yes {w : World} {F : Nat → Prop} {g : Nat} {S : RS} (hr : RefIs w F g S) (a b : Int) (lost again : Bool) (hk : knowsB S.N a b = true) :
    Calls Try.prog 27 #[.pointer (some ⟨g, 0, none⟩), .int .i64 a, .int .i64 b, .bool lost, .bool again] w fun e w' => e = .returned (.tuple #[.string (rDeliver S a b lost again).1.1, .bool (rDeliver S a b lost again).1.2]) ∧ RefIs w' (Ext F w w') g (rDeliver S a b lost again).2 ∧ Fr F w w' := by
  have Hr0 := Lib.hid hr
  obtain ⟨vL, vG, h⟩ := hr
  obtain ⟨A, n, cap, rfl, hn⟩ := h.rdM.len
  obtain ⟨c0, c1, c2, _⟩ := h.cells
  have hp := pair_ok S.N a b g w c0
  rw [hk] at hp
  have HP := Lib.hid hp
  have hn1 : n ≤ 1000 := by have := h.bl; omega
  have hcap : n ≤ cap := by
    obtain ⟨_, _, _, he, _, h2, _⟩ := h.rl
    cases he; exact h2
  have H := Lib.hid h
  have Hn := Lib.hid hn
  have Hk := Lib.hid hk
  clear h hn hp hk
  go_enter Try.func27, Try.ntmps27
  go_wp2_with fail
  refine HP.out.mono ?_
  rintro e w' ⟨rfl, rfl⟩
  go_wp2_with fail
  go_loopw [12] (fun i wr => ∃ k : Nat, k ≤ n ∧ i = .int .i64 k ∧ (∀ x ∈ S.L.take k, toB a b x = false) ∧ Fr None' w' wr) (fun i _ => n - (intOf i).toNat)
  case atStart => exact ⟨0, Nat.zero_le _, rfl, by simp, Fr.refl _ _⟩
  case round =>
    obtain ⟨k, hk, rfl, hall, hf⟩ := hrel
    have e1 := hf.cell c1 (fun h => h)
    have Hf := Lib.hid hf
    have Hall := Lib.hid hall
    by_cases hlt : k < n
    · obtain ⟨⟨ma, mb, mt⟩, hp⟩ : ∃ p, S.L[k]? = some p := ⟨_, List.getElem?_eq_getElem (by rw [← Hn.out]; exact hlt)⟩
      obtain ⟨gl, off, rfl, hgl, f0, f1, f2⟩ := RdM.get (H.out.rdM.fr0 hf) hp
      have Hp := Lib.hid hp
      have hki : (k : Int) < (n : Int) := by omega
      simp only at f0 f1 f2
      have step : toB a b ⟨ma, mb, mt⟩ = false → ∀ x ∈ S.L.take (k + 1), toB a b x = false := fun hl x hx => by
        rw [List.take_add_one, Hp.out] at hx
        simp at hx
        rcases hx with hx | rfl
        · exact Hall.out x hx
        · exact hl
      have Step := Lib.hid step
      clear hp hf hall hk step
      cases ha : (ma == a) with
      | false =>
        have ha' : (ma != a) = true := by rw [bne, ha]; rfl
        go_wp2_with fail
        all_goals exact ⟨⟨k + 1, by omega, by go_num, Step.out (by simp [toB, ha]), Hf.out.alloc _⟩, by simp [intOf]; omega⟩
      | true =>
        have ha' : (ma != a) = false := by rw [bne, ha]; rfl
        cases hb : (mb == b) with
        | false =>
          have hb' : (mb != b) = true := by rw [bne, hb]; rfl
          go_wp2_with fail
          all_goals exact ⟨⟨k + 1, by omega, by go_num, Step.out (by simp [toB, hb]), Hf.out.alloc _⟩, by simp [intOf]; omega⟩
        | true =>
          have hb' : (mb != b) = false := by rw [bne, hb]; rfl
          have hit := del_hit Hall.out Hp.out (by simp [toB, ha, hb])
          have Hit := Lib.hid hit
          clear hit
          by_cases hrm : (lost || !again) = true
          · have hs1 : ∀ u : World, (Instr.slice 61 (.slice (some ⟨gl, off, none⟩) n cap) none (some (.int .i64 (k : Int))) none).run Try.prog u = .ok (.slice (some ⟨gl, off, none⟩) k cap) u := fun u => run_slice_hi u 61 67 3 Try.underlying61 (by kernel_rfl) _ n cap .i64 k (by omega)
            have hs2 : ∀ u : World, (Instr.slice 61 (.slice (some ⟨gl, off, none⟩) n cap) (some (.int .i64 ((k : Int) + 1))) none none).run Try.prog u = .ok (.slice (if cap = k + 1 then some ⟨gl, off, none⟩ else (some (⟨gl, off, none⟩ : Addr)).map (·.add ((k + 1) * 3))) (n - (k + 1)) (cap - (k + 1))) u := fun u => by
              have := run_slice_lo u 61 67 3 Try.underlying61 (by kernel_rfl) (some ⟨gl, off, none⟩) n cap .i64 (k + 1) (by omega)
              exact this
            obtain ⟨A2, hA2⟩ : ∃ A2, A2 = (if cap = k + 1 then some ⟨gl, off, none⟩ else (some (⟨gl, off, none⟩ : Addr)).map (·.add ((k + 1) * 3))) := ⟨_, rfl⟩
            rw [← hA2] at hs2
            have hwk : wrap64 ((k : Int) + 1) = (k : Int) + 1 := by unfold wrap64; omega
            have hwk' : IntKind.i64.wrap ((k : Int) + 1) = (k : Int) + 1 := by rw [IntKind.wrap_i64]; omega
            have HA2 := Lib.hid hA2
            clear hA2
            have z1 := (Hf.out.alloc (.cells #[.int .i64 ma, .int .i64 mb, .string mt] 67)).cell c1 (fun h => h)
            obtain ⟨_, _, zb, _⟩ := three_cells (heap_alloc_new wr (.cells #[.int .i64 ma, .int .i64 mb, .string mt] 67))
            have hgn1 : ¬ wr.heap.size = g := by have := lt_of_heap H.out.obj; have := Hf.out.size; omega
            have hgn2 : ¬ g = wr.heap.size := fun e => hgn1 e.symm
            have H5 := Lib.hid (H.out.fr (Hf.out.alloc (.cells #[.int .i64 ma, .int .i64 mb, .string mt] 67)) (fun _ _ h => h))
            have Hf5 := Lib.hid (Hf.out.alloc (.cells #[.int .i64 ma, .int .i64 mb, .string mt] 67))
            have Hl1 : Hid (((S.L.take k).flatMap Msg.cells).length = k * 3) := Lib.hid (by rw [flat_length _ 3 Msg.cells_len, List.length_take, Nat.min_eq_left (by rw [← Hn.out]; omega)])
            have Hone1 : Hid (∀ u ∈ (S.L.take k).flatMap Msg.cells, u.oneCell' = true) := Lib.hid (flat_one Msg.one _)
            have Hc1 : Hid (([] : List Value).length + ((S.L.take k).flatMap Msg.cells).length ≤ 9007199254740992) := Lib.hid (by rw [Hl1.out]; simp; omega)
            have Hd1 : Hid (((([] : List Value).length + ((S.L.take k).flatMap Msg.cells).length) / 3) * 32 ≤ 140737488355328) := Lib.hid (by rw [Hl1.out]; simp; omega)
            have Hl2 : Hid (((S.L.drop (k + 1)).flatMap Msg.cells).length = (n - (k + 1)) * 3) := Lib.hid (by rw [flat_length _ 3 Msg.cells_len, List.length_drop, Hn.out])
            have Hone2 : Hid (∀ u ∈ (S.L.drop (k + 1)).flatMap Msg.cells, u.oneCell' = true) := Lib.hid (flat_one Msg.one _)
            have Hc2 : Hid (([] ++ (S.L.take k).flatMap Msg.cells).length + ((S.L.drop (k + 1)).flatMap Msg.cells).length ≤ 9007199254740992) := Lib.hid (by rw [List.nil_append, Hl1.out, Hl2.out]; omega)
            have Hd2 : Hid ((([] ++ (S.L.take k).flatMap Msg.cells).length + ((S.L.drop (k + 1)).flatMap Msg.cells).length) / 3 * 32 ≤ 140737488355328) := Lib.hid (by rw [List.nil_append, Hl1.out, Hl2.out]; omega)
            cases lost with
            | true =>
              have hdel : rDeliver S a b true again = ((⟨#[]⟩, false), ⟨S.N, S.L.take k ++ S.L.drop (k + 1), S.G⟩) := by simp [rDeliver, Hk.out, Hit.out, Hp.out]
              have Hdel := Lib.hid hdel
              clear hdel
              go_wp2_with fail
              generalize hw5 : wr.alloc (.cells #[.int .i64 ma, .int .i64 mb, .string mt] 67) = w5 at *
              clear hw5
              have z2 := ((Fr.refl None' w5).alloc (.cells #[] 67)).cell z1 (fun h => h)
              have hrowL : Row (w5.alloc (.cells #[] 67)).drew 3 (.slice (some ⟨gl, off, none⟩) n cap) (S.L.flatMap Msg.cells) := H5.out.rl.fr ((Fr.refl None' w5).alloc _).drew (fun _ _ h => h)
              have hrd1 := reads_lo Msg.cells_len hrowL k
              have Hrd1 := Lib.hid hrd1
              clear hrd1 hrowL
              go_region_law
                (first | (refine step_append_row ((w5.alloc (.cells #[] 67)).drew) rfl (.tmp 51) (.tmp 57) 61 67 rfl (.agg #[.int .i64 0, .int .i64 0, .string ⟨#[]⟩]) 3 32 Try.underlying61 info67 rfl (by decide) (.slice (some ⟨w5.heap.size, 0, none⟩) 0 0) [] rfl (Row.nil _ _ _) (some ⟨gl, off, none⟩) k cap ((S.L.take k).flatMap Msg.cells) rfl Hl1.out Hrd1.out Hone1.out Hc1.out Hd1.out ?_
                          intro v6 w6 hr6 hg6 hb6
                          obtain ⟨A6, n6, c6, rfl, hn6⟩ := hr6.form
                          have hf6 : Fr None' w5 w6 := ((Fr.refl None' w5).alloc (.cells #[] 67)).drew.grown hg6 (fun j hj => by simp [rowBlk] at hj)
                          have q1 := hf6.cell z1 (fun h => h)
                          have Hrd2 := Lib.hid (reads_hi Msg.cells_len (by decide) (H5.out.rl.fr hf6 (fun _ _ h => h)) (k + 1) (by omega))
                          have Hr6 := Lib.hid hr6
                          have Hf6 := Lib.hid hf6
                          have Hb6 := Lib.hid hb6
                          clear hr6 hg6 hb6 hf6)
                       | (refine step_append_row w6 rfl (.tmp 58) (.tmp 65) 61 67 rfl (.agg #[.int .i64 0, .int .i64 0, .string ⟨#[]⟩]) 3 32 Try.underlying61 info67 rfl (by decide) (.slice A6 n6 c6) ([] ++ (S.L.take k).flatMap Msg.cells) rfl Hr6.out A2 (n - (k + 1)) (cap - (k + 1)) ((S.L.drop (k + 1)).flatMap Msg.cells) rfl Hl2.out (by rw [HA2.out]; exact Hrd2.out) Hone2.out Hc2.out Hd2.out ?_
                          intro v7 w7 hr7 hg7 hb7
                          obtain ⟨A7, n7, c7, rfl, hn7⟩ := hr7.form
                          have hf7 := Hf6.out.grown hg7 (fun j hj => .inr (app_blk Hb6.out ((Fr.refl None' w5).alloc (.cells #[] 67)).drew.size hj))
                          obtain ⟨_, q2, _, qz⟩ := three_cells (hf7.heap H5.out.obj (fun h => h))
                          have q3 := hf7.cell zb (fun h => h)
                          have Hr7 := Lib.hid hr7
                          have Hf7 := Lib.hid hf7
                          have Hb7 := Lib.hid hb7
                          clear hr7 hg7 hb7 hf7))
              all_goals (
                go_wp2_with fail
                have hput := H5.out.putL (L' := S.L.take k ++ S.L.drop (k + 1)) (Hf7.out.mono (fun _ _ h => h.elim)) (by rw [List.flatMap_append]; simpa using Hr7.out) (fun j hj => .inr (by
                  rcases Hb7.out with h | h
                  · rw [h] at hj; exact app_blk Hb6.out ((Fr.refl None' w5).alloc (.cells #[] 67)).drew.size hj
                  · rw [h] at hj; cases hj; exact Hf6.out.size)) (by have := H5.out.bl; rw [List.length_append, List.length_take, List.length_drop]; omega)
                try simp only [Exit.inBlock, Exit.then]
                have hs5 := Hf5.out.size
                refine bodyPost_ret (results_tmp2 rfl _ _ _) rfl ⟨by rw [Hdel.out] <;> rfl, ?_, ?_⟩
                · rw [Hdel.out]
                  exact hput.1.mono (fun j hj => by
                    rcases hj with hj | hj
                    · exact .inl hj
                    · exact .inr ⟨by omega, hj.2⟩)
                · exact (fr_none Hf5.out).trans hput.2 (fun _ _ h => h))
            | false =>
              obtain rfl : again = false := by simpa using hrm
              have hdel : rDeliver S a b false false = ((mt, true), ⟨S.N, S.L.take k ++ S.L.drop (k + 1), S.G⟩) := by simp [rDeliver, Hk.out, Hit.out, Hp.out]
              have Hdel := Lib.hid hdel
              clear hdel
              go_wp2_with fail
              generalize hw5 : wr.alloc (.cells #[.int .i64 ma, .int .i64 mb, .string mt] 67) = w5 at *
              clear hw5
              have z2 := ((Fr.refl None' w5).alloc (.cells #[] 67)).cell z1 (fun h => h)
              have hrowL : Row (w5.alloc (.cells #[] 67)).drew 3 (.slice (some ⟨gl, off, none⟩) n cap) (S.L.flatMap Msg.cells) := H5.out.rl.fr ((Fr.refl None' w5).alloc _).drew (fun _ _ h => h)
              have hrd1 := reads_lo Msg.cells_len hrowL k
              have Hrd1 := Lib.hid hrd1
              clear hrd1 hrowL
              go_region_law
                (first | (refine step_append_row ((w5.alloc (.cells #[] 67)).drew) rfl (.tmp 51) (.tmp 57) 61 67 rfl (.agg #[.int .i64 0, .int .i64 0, .string ⟨#[]⟩]) 3 32 Try.underlying61 info67 rfl (by decide) (.slice (some ⟨w5.heap.size, 0, none⟩) 0 0) [] rfl (Row.nil _ _ _) (some ⟨gl, off, none⟩) k cap ((S.L.take k).flatMap Msg.cells) rfl Hl1.out Hrd1.out Hone1.out Hc1.out Hd1.out ?_
                          intro v6 w6 hr6 hg6 hb6
                          obtain ⟨A6, n6, c6, rfl, hn6⟩ := hr6.form
                          have hf6 : Fr None' w5 w6 := ((Fr.refl None' w5).alloc (.cells #[] 67)).drew.grown hg6 (fun j hj => by simp [rowBlk] at hj)
                          have q1 := hf6.cell z1 (fun h => h)
                          have Hrd2 := Lib.hid (reads_hi Msg.cells_len (by decide) (H5.out.rl.fr hf6 (fun _ _ h => h)) (k + 1) (by omega))
                          have Hr6 := Lib.hid hr6
                          have Hf6 := Lib.hid hf6
                          have Hb6 := Lib.hid hb6
                          clear hr6 hg6 hb6 hf6)
                       | (refine step_append_row w6 rfl (.tmp 58) (.tmp 65) 61 67 rfl (.agg #[.int .i64 0, .int .i64 0, .string ⟨#[]⟩]) 3 32 Try.underlying61 info67 rfl (by decide) (.slice A6 n6 c6) ([] ++ (S.L.take k).flatMap Msg.cells) rfl Hr6.out A2 (n - (k + 1)) (cap - (k + 1)) ((S.L.drop (k + 1)).flatMap Msg.cells) rfl Hl2.out (by rw [HA2.out]; exact Hrd2.out) Hone2.out Hc2.out Hd2.out ?_
                          intro v7 w7 hr7 hg7 hb7
                          obtain ⟨A7, n7, c7, rfl, hn7⟩ := hr7.form
                          have hf7 := Hf6.out.grown hg7 (fun j hj => .inr (app_blk Hb6.out ((Fr.refl None' w5).alloc (.cells #[] 67)).drew.size hj))
                          obtain ⟨_, q2, _, qz⟩ := three_cells (hf7.heap H5.out.obj (fun h => h))
                          have q3 := hf7.cell zb (fun h => h)
                          have Hr7 := Lib.hid hr7
                          have Hf7 := Lib.hid hf7
                          have Hb7 := Lib.hid hb7
                          clear hr7 hg7 hb7 hf7))
              all_goals (
                go_wp2_with fail
                have hput := H5.out.putL (L' := S.L.take k ++ S.L.drop (k + 1)) (Hf7.out.mono (fun _ _ h => h.elim)) (by rw [List.flatMap_append]; simpa using Hr7.out) (fun j hj => .inr (by
                  rcases Hb7.out with h | h
                  · rw [h] at hj; exact app_blk Hb6.out ((Fr.refl None' w5).alloc (.cells #[] 67)).drew.size hj
                  · rw [h] at hj; cases hj; exact Hf6.out.size)) (by have := H5.out.bl; rw [List.length_append, List.length_take, List.length_drop]; omega)
                try simp only [Exit.inBlock, Exit.then]
                have hs5 := Hf5.out.size
                refine bodyPost_ret (results_tmp2 rfl _ _ _) rfl ⟨by rw [Hdel.out] <;> rfl, ?_, ?_⟩
                · rw [Hdel.out]
                  exact hput.1.mono (fun j hj => by
                    rcases hj with hj | hj
                    · exact .inl hj
                    · exact .inr ⟨by omega, hj.2⟩)
                · exact (fr_none Hf5.out).trans hput.2 (fun _ _ h => h))
          · obtain ⟨rfl, rfl⟩ : lost = false ∧ again = true := by simpa using hrm
            have hdel : rDeliver S a b false true = ((mt, true), S) := by simp [rDeliver, Hk.out, Hit.out, Hp.out]
            have Hdel := Lib.hid hdel
            clear hdel
            clear hrm
            go_wp2_with fail
            try simp only [Exit.inBlock, Exit.then]
            refine bodyPost_ret (results_tmp2 rfl _ _ _) rfl ⟨by rw [Hdel.out] <;> rfl, ?_, ?_⟩
            · rw [Hdel.out]; exact Hr0.out.keep (Hf.out.alloc _)
            · exact fr_none (Hf.out.alloc _)
    · have hki : ¬ (k : Int) < (n : Int) := by omega
      have hmiss : S.L.findIdx? (toB a b) = none := by
        rw [List.take_of_length_le (by rw [← Hn.out]; omega)] at hall
        rw [List.findIdx?_eq_none_iff]; exact hall
      have hdel : rDeliver S a b lost again = ((⟨#[]⟩, false), S) := by simp [rDeliver, Hk.out, hmiss]
      have Hdel := Lib.hid hdel
      clear hdel hmiss hall hf
      go_wp2_with fail
      try simp only [Exit.inBlock, Exit.then]
      refine bodyPost_ret (results_tmp2 rfl _ _ _) rfl ⟨by rw [Hdel.out] <;> rfl, ?_, ?_⟩
      · rw [Hdel.out]; exact Hr0.out.keep Hf.out
      · exact fr_none Hf.out
theorem rdel_any {w : World} {F : Nat → Prop} {g : Nat} {S : RS} (hr : RefIs w F g S) (a b : Int) (lost again : Bool) :
    Calls Try.prog 27 #[.pointer (some ⟨g, 0, none⟩), .int .i64 a, .int .i64 b, .bool lost, .bool again] w fun e w' => e = .returned (.tuple #[.string (rDeliver S a b lost again).1.1, .bool (rDeliver S a b lost again).1.2]) ∧ RefIs w' (Ext F w w') g (rDeliver S a b lost again).2 ∧ Fr F w w' := by
  cases hk : knowsB S.N a b with
  | true => exact rdel_yes hr a b lost again hk
  | false =>
    have hdel : rDeliver S a b lost again = ((⟨#[]⟩, false), S) := by simp [rDeliver, hk]
    rw [hdel]
    refine (rdel_no hr a b lost again hk).mono ?_
    rintro e w' ⟨he, hf⟩
    exact ⟨he, hr.keep hf, fr_none hf⟩
end Go.Proofs.Ytdgcimjpggjnjaa

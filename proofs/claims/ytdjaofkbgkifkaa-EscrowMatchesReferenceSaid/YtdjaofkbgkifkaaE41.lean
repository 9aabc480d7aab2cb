/- The reference of chapter 36: Send, where a message is made. -/
import Derived.Test.YtdjaofkbgkifkaaE40
set_option linter.unusedVariables false
set_option linter.unusedSimpArgs false
namespace Go.Proofs.Ytdjaofkbgkifkaa
open Go.RowKit

theorem lim1 {n m : Nat} (h : n ≤ 1000000) (hm : m ≤ 1000) : n + m ≤ 9007199254740992 := by omega
theorem lim1b {n m : Nat} (h : n ≤ 1000000) (hm : m ≤ 1000) : ((n + m) / 1) * 8 ≤ 140737488355328 := by omega
theorem lim4b {n m : Nat} (h : n ≤ 1000000) (hm : m ≤ 1000) : ((n + m) / 4) * 48 ≤ 140737488355328 := by omega
set_option maxHeartbeats 4000000 in
set_option maxRecDepth 100000 in
theorem rsend_do {U : Int} {t : Nat} {w : World} {F : Nat → Prop} {ρ : Nat → RR} {g : Nat} {S : ES} {vU vS vR vP : Value} {vr : Nat → Value} {vT vM : Nat → Nat → Value} {mz : Nat → Nat → List (Value × EM)}
    (h : RefAt w ρ g S vU vS vR vP vr vT vM mz) (hF : ∀ k, ρ k ≠ .other → F k) (hI : Inv U t S) (ht : t ≤ 1000000) {a b : Nat} (ha : a < S.acc.length) (hb : b < S.acc.length) (hne : a ≠ b) (hq : ¬ 100 ≤ (S.ln a b).ms.length) :
    Calls Try.prog 79 #[.pointer (some ⟨g, 0, none⟩), .int .i64 a, .int .i64 b] w (RPost w F g (.int .i64 0) (S.putL a b { S.ln a b with ms := (S.ln a b).ms ++ [eMsg S a b] })) := by
  obtain ⟨c0, _, c2, c3, cf⟩ := h.cells
  have hia : isB S.acc.length a = true := by simp only [isB, decide_eq_true_eq]; omega
  have hib : isB S.acc.length b = true := by simp only [isB, decide_eq_true_eq]; omega
  have hx := ES.ac_get hia
  rw [Int.toNat_natCast] at hx
  obtain ⟨A0, cap0, rfl⟩ := arr_form ucell_len h.un
  obtain ⟨gv, ov, cv, rfl, bv, r0, _⟩ := arr_get rcell_len h.re hx rfl
  obtain ⟨gp, op, cp, gr, orr, cr, A, cap, AM, capM, rfl, bp, p0, hvr, hbr, hv, hvM, q0, q1, q2, q3, qf⟩ := h.pairAt ha hb
  obtain ⟨gp', op', cp', gs, os, cs, A', cap', AM', capM', he, _, p0', hvr', hbr', hv', hvM', q0', q1', q2', q3', _⟩ := h.pairAt hb ha
  cases he
  have hok := hI.sh.ok (nat_pair ha hb hne)
  have Ha := is_at c0 a
  have Hb := is_at c0 b
  rw [hia] at Ha
  rw [hib] at Hb
  have hab : ((a : Int) == (b : Int)) = false := by rw [beq_eq_false_iff_ne]; omega
  have i0 : ¬ (a : Int) < 0 := by omega
  have i1 : (a : Int) < S.acc.length := by omega
  have j0 : ¬ (b : Int) < 0 := by omega
  have j1 : (b : Int) < S.acc.length := by omega
  have hK := hok.tm
  have hcr := hok.cr
  have hra := hok.ra
  have hge : ¬ (100 : Int) ≤ (S.ln a b).ms.length := by omega
  have hwc : IntKind.i64.wrap (((S.ln a b).conf : Int) + 1) = ((S.ln a b).conf : Int) + 1 := wrap_succ _ (by omega)
  obtain ⟨bx, hbx⟩ : ∃ bx : Obj, bx = .cells #[.slice A (S.ln a b).all.length cap, .int .i64 (S.ln a b).rcv, .int .i64 (S.ln a b).conf, .slice AM (S.ln a b).ms.length capM] 149 := ⟨_, rfl⟩
  obtain ⟨wB, hwB⟩ : ∃ wB, wB = w.alloc bx := ⟨_, rfl⟩
  have fB : Fr None' w wB := by rw [hwB]; exact (Fr.refl None' w).alloc bx
  have hA := h.fr fB (fun _ _ h => h)
  have grl : gr < w.heap.size := (h.row a ha).lt hbr
  have gsl : gs < w.heap.size := (h.row b hb).lt hbr'
  have gpl : gp < w.heap.size := h.out.lt bp
  have gvl : gv < w.heap.size := h.re.lt bv
  obtain ⟨d0, _, d2, d3, _⟩ := hA.cells
  have dr : wB.cell? ⟨gv, ov + a, none⟩ = some (.bool (S.ac a).r) := (World.cell?_of_block (fB.block gv gvl (fun h => h))).trans r0
  have dp : wB.cell? ⟨gp, op + a, none⟩ = some (.slice (some ⟨gr, orr, none⟩) S.acc.length cr) := (World.cell?_of_block (fB.block gp gpl (fun h => h))).trans p0
  have dp' : wB.cell? ⟨gp, op + b, none⟩ = some (.slice (some ⟨gs, os, none⟩) S.acc.length cs) := (World.cell?_of_block (fB.block gp gpl (fun h => h))).trans p0'
  have ds : wB.cell? ⟨gs, os + a * 4 + 1, none⟩ = some (.int .i64 ((S.ln b a).rcv : Int)) := (World.cell?_of_block (fB.block gs gsl (fun h => h))).trans q1'
  have kb : wB.heap[w.heap.size]? = some bx := by rw [hwB]; exact heap_alloc_new w bx
  rw [hbx] at kb
  obtain ⟨x0, x1, x2, x3, _⟩ := four_cells kb
  have sB : wB.heap.size = w.heap.size + 1 := by rw [hwB]; exact Array.size_push _
  obtain ⟨wX, hwX⟩ : ∃ wX, wX = (wB.alloc (.cells #[.int .i64 0, .slice none 0 0, .int .i64 0, .bool false] 161)).drew := ⟨_, rfl⟩
  have fX : Fr None' wB wX := by rw [hwX]; exact ((Fr.refl None' wB).alloc _).drew
  have kX : ∀ j o v, j < w.heap.size + 1 → wB.cell? ⟨j, o, none⟩ = some v → wX.cell? ⟨j, o, none⟩ = some v := fun j o v hj hc => (World.cell?_of_block (fX.block j (by omega) (fun h => h))).trans hc
  have gl : g < w.heap.size := (Array.getElem?_eq_some_iff.1 h.obj).1
  have e2 := kX _ _ _ (by omega) d2
  have e3 := kX _ _ _ (by omega) d3
  have er := kX _ _ _ (by omega) dr
  have ep := kX _ _ _ (by omega) dp
  have ep' := kX _ _ _ (by omega) dp'
  have es := kX _ _ _ (by omega) ds
  have ex0 := kX _ _ _ (by omega) x0
  have ex2 := kX _ _ _ (by omega) x2
  have HwX := Lib.hid hwX
  have HfX := Lib.hid fX
  have HsB := Lib.hid sB
  have Ha := Lib.hid Ha
  have Hb := Lib.hid Hb
  have Hh := Lib.hid h
  have HF := Lib.hid hF
  have HI := Lib.hid hI
  have Hok := Lib.hid hok
  have HfB := Lib.hid fB
  have Hbx := Lib.hid hbx
  have HwB := Lib.hid hwB
  have Hkb := Lib.hid kb
  have Hne := Lib.hid hne
  have HK := Lib.hid (show (S.ln a b).all.length ≤ 1000000 by omega)
  have Hha := Lib.hid ha
  have Hhb := Lib.hid hb
  have Hv := Lib.hid hv
  have HvM := Lib.hid hvM
  have Hvr := Lib.hid hvr
  have Hbr := Lib.hid hbr
  have Hbp := Lib.hid bp
  have Hge := Lib.hid hge
  clear h hF hI ht ha hb hne hq hia hib hx hok hK hcr hra fB hA hbx hwB kb bp bv hbr hbr' hv hv' hvM hvM' hvr hvr' sB hwX fX kX gl grl gsl gpl gvl
  as_aux_lemma =>
   go_enter Try.func79, Try.ntmps79
   go_wp2_with fail
   refine Ha.out.mono ?_
   rintro e w' ⟨rfl, rfl⟩
   go_wp2_with fail
   refine Hb.out.mono ?_
   rintro e w' ⟨rfl, rfl⟩
   go_wp2_with fail
   as_aux_lemma =>
    obtain rfl := Hbx.out
    rw [← HwB.out]
    clear c0 c2 c3 cf p0 p0' q0 q1 q2 q3 q0' q1' q2' q3' r0 qf
    obtain rfl := HwX.out
    go_region
    as_aux_lemma =>
     clear e2 e3 er ep ep' es ex0 ex2 d2 d3 dr dp dp' ds d0 x0 x1 x2 x3 hwc
     obtain ⟨wY, hwY⟩ : ∃ wY, wY = (wB.alloc (.cells #[.int .i64 (((S.ln a b).conf : Int) + 1), .slice none 0 0, .int .i64 ((S.ln b a).rcv : Int), .bool (S.ac a).r] 161)).drew := ⟨_, rfl⟩
     rw [← hwY]
     have kY7 := (show wY.heap[w'.heap.size]? = wB.heap[w'.heap.size]? from by rw [hwY]; exact Below.heap_alloc wB _ _ (by rw [HsB.out]; omega)).trans Hkb.out
     have kY8 : wY.heap[wB.heap.size]? = some (.cells #[.int .i64 (((S.ln a b).conf : Int) + 1), .slice none 0 0, .int .i64 ((S.ln b a).rcv : Int), .bool (S.ac a).r] 161) := by
       rw [hwY]; exact heap_alloc_new wB _
     have fY : Fr None' wB wY := by rw [hwY]; exact ((Fr.refl None' wB).alloc _).drew
     have HwY := Lib.hid hwY
     have HfY := Lib.hid fY
     clear hwY fY
     obtain ⟨G8, hG8⟩ : ∃ G8, G8 = wB.heap.size := ⟨_, rfl⟩
     obtain ⟨G7, hG7⟩ : ∃ G7, G7 = w'.heap.size := ⟨_, rfl⟩
     rw [← hG8, ← hG7]
     rw [← hG7] at kY7
     rw [← hG8] at kY8
     have HG8 := Lib.hid hG8
     have HG7 := Lib.hid hG7
     clear hG8 hG7
     obtain ⟨K, hK⟩ : ∃ K, K = (S.ln a b).all.length := ⟨_, rfl⟩
     have HKK := Lib.hid hK
     obtain ⟨C, hC⟩ : ∃ C, C = (S.ln a b).conf := ⟨_, rfl⟩
     have HC := Lib.hid hC
     rw [← hK, ← hC]
     rw [← hK, ← hC] at kY7
     rw [← hC] at kY8
     clear hK hC
     obtain ⟨x0, x1, x2, x3, _⟩ := four_cells kY7
     as_aux_lemma =>
      have HkY7 := Lib.hid kY7
      have HkY8 := Lib.hid kY8
      clear kY7 kY8
      go_wp2_with fail
      go_loopw [9] (fun iv wr => ∃ (p : Nat) (vk : Value), C ≤ p ∧ p ≤ K ∧ iv = .int .i64 (p : Int) ∧
        wr.heap[G8]? = some (.cells #[.int .i64 ((C : Int) + 1), vk, .int .i64 ((S.ln b a).rcv : Int), .bool (S.ac a).r] 161) ∧
        wr.heap[G7]? = some (.cells #[.slice A K cap, .int .i64 (S.ln a b).rcv, .int .i64 C, .slice AM (S.ln a b).ms.length capM] 149) ∧
        Row wr 1 vk ((((S.ln a b).all.drop C).take (p - C)).flatMap icell) ∧ (∀ k, rowBlk vk = some k → G8 < k) ∧ Fr None' wB wr) (fun iv _ => K - (intOf iv).toNat)
      case atStart => exact ⟨C, _, Nat.le_refl _, by have := Hok.out.cr; have := Hok.out.ra; rw [HC.out, HKK.out]; omega, rfl, HkY8.out, HkY7.out, by rw [Nat.sub_self]; exact Row.nil _ _ _, by simp [rowBlk], HfY.out⟩
      case round =>
        obtain ⟨p, vk, hpC, hi, rfl, hk8, hk7, hrow, hnew, hfr⟩ := hrel
        obtain ⟨i, hpi⟩ : ∃ i, i = p - C := ⟨_, rfl⟩
        rw [← hpi] at hrow
        obtain ⟨Ak, nk, ck, rfl, hlk⟩ := hrow.form
        as_aux_lemma =>
         obtain ⟨y0, y1, y2, y3, yf⟩ := four_cells hk8
         obtain ⟨z0, z1, z2, z3, _⟩ := four_cells hk7
         have hszr := hfr.size
         have hG8r := HG8.out
         have hG7r := HG7.out
         have hsB := HsB.out
         have hlenk : nk = i := by
           rw [flat_length _ 1 icell_len, List.length_take, List.length_drop] at hlk
           have := HKK.out
           omega
         by_cases hlt : p < K
         · have h3I : (p : Int) < K := by omega
           have h3N : ¬ (p : Int) < 0 := by omega
           have hx : (S.ln a b).all[p]? = some ((S.ln a b).all[p]'(by rw [← HKK.out]; exact hlt)) := List.getElem?_eq_getElem _
           generalize (S.ln a b).all[p]'(by rw [← HKK.out]; exact hlt) = y at hx
           have hTr := (Hh.out.fr (HfB.out.trans0 hfr) (fun _ _ h => h)).tr a b Hha.out Hhb.out
           rw [Hv.out] at hTr
           obtain ⟨ga, oa, rfl, hba, hca⟩ := row_read hTr hx
           have hgl : ga < w'.heap.size := by
             have h1 := Hh.out.tr a b Hha.out Hhb.out
             rw [Hv.out] at h1
             exact h1.lt hba
           obtain ⟨w3, hw3⟩ : ∃ w3, w3 = (wr.alloc (.cells #[.int .i64 y] 3)).drew := ⟨_, rfl⟩
           have f3 : Fr None' wr w3 := by rw [hw3]; exact ((Fr.refl None' wr).alloc _).drew
           have l8 : G8 < wr.heap.size := (Array.getElem?_eq_some_iff.1 hk8).1
           have l7 : G7 < wr.heap.size := (Array.getElem?_eq_some_iff.1 hk7).1
           have hrow3 := hrow.fr f3 (fun _ _ h => h)
           have hrd3 : ReadsAs w3 (some ⟨wr.heap.size, 0, none⟩) ([y].flatMap icell) := by
             rw [hw3]
             exact reads_blk (cs := [.int .i64 y]) (show (wr.alloc (.cells #[.int .i64 y] 3)).heap[wr.heap.size]? = _ from heap_alloc_new _ _)
           have hlen : (((((S.ln a b).all.drop C).take i).flatMap icell)).length + ([y].flatMap icell).length ≤ 9007199254740992 := by
             rw [hlk, flat_length _ 1 icell_len, List.length_singleton]; exact lim1 (by have := HK.out; have := HKK.out; omega) (by decide)
           have hby : ((((((S.ln a b).all.drop C).take i).flatMap icell).length + ([y].flatMap icell).length) / 1) * 8 ≤ 140737488355328 := by
             rw [hlk, flat_length _ 1 icell_len, List.length_singleton]; exact lim1b (by have := HK.out; have := HKK.out; omega) (by decide)
           have k3 : w3.cell? ⟨G8, 1, none⟩ = some (.slice Ak nk ck) ∧ w3.cell? ⟨G7, 0, none⟩ = some (.slice (some ⟨ga, oa, none⟩) K cap) ∧ w3.cell? ⟨ga, oa + p, none⟩ = some (.int .i64 y) :=
             ⟨(World.cell?_of_block (f3.block G8 l8 (fun h => h))).trans y1, (World.cell?_of_block (f3.block G7 l7 (fun h => h))).trans z0, (World.cell?_of_block (f3.block ga (by omega) (fun h => h))).trans hca⟩
           have k4 : ∀ w4 : World, w3.grownBy w4 (rowBlk (.slice Ak nk ck)) → w4.heap[G8]? = some (.cells #[.int .i64 ((C : Int) + 1), .slice Ak nk ck, .int .i64 ((S.ln b a).rcv : Int), .bool (S.ac a).r] 161) ∧
               w4.heap[G7]? = some (.cells #[.slice (some ⟨ga, oa, none⟩) K cap, .int .i64 (S.ln a b).rcv, .int .i64 C, .slice AM (S.ln a b).ms.length capM] 149) ∧ Fr None' wB w4 := by
             intro w4 hg4
             refine ⟨(hg4.block G8 (by have := f3.size; omega) (fun e => by have := hnew G8 e.symm; omega)).trans ((f3.block G8 l8 (fun h => h)).trans hk8), (hg4.block G7 (by have := f3.size; omega) (fun e => by have := hnew G7 e.symm; omega)).trans ((f3.block G7 l7 (fun h => h)).trans hk7), ?_⟩
             exact (hfr.trans0 f3).grown hg4 (fun k hk => .inr (by have := hnew k hk; omega))
           have hnw : ∀ (v4 : Value), (rowBlk v4 = rowBlk (.slice Ak nk ck) ∨ rowBlk v4 = some w3.heap.size) → ∀ k, rowBlk v4 = some k → G8 < k := by
             intro v4 hb4 k hk
             rcases hb4 with e | e
             · exact hnew k (by rw [← e]; exact hk)
             · rw [e] at hk; cases hk; have := f3.size; omega
           have htk : ((S.ln a b).all.drop C).take (i + 1) = ((S.ln a b).all.drop C).take i ++ [y] := by
             rw [List.take_add_one, List.getElem?_drop, show C + i = p from by omega, hx]; rfl
           have hp1 : p ≤ 1000000000 := by have := HK.out; have := HKK.out; omega
           have Hk4 := Lib.hid k4
           have Hk3 := Lib.hid k3
           have Hw3 := Lib.hid hw3
           have Hr3 := Lib.hid hrow3
           have Hrd3 := Lib.hid hrd3
           have Hone := Lib.hid (icells_one [y])
           have Hlen := Lib.hid hlen
           have Hby := Lib.hid hby
           have Hnw := Lib.hid hnw
           have Htk := Lib.hid htk
           have Hlk := Lib.hid hlk
           have HpC := Lib.hid hpC
           have Hpi := Lib.hid hpi
           clear hk8 hk7 hrow hnew hfr hlk hszr hG8r hG7r hsB hx hTr hba hgl hw3 f3 l8 l7 hrow3 hrd3 hlen hby k3 k4 hnw htk hlenk hpC hpi y0 y2 y3 yf z1 z2 z3
           as_aux_lemma =>
            go_wp2_with fail
            obtain ⟨m1, m2, m3⟩ := Hk3.out
            obtain rfl := Hw3.out
            go_region_law (refine step_append_row ((wr.alloc (.cells #[.int .i64 y] 3)).drew) rfl (.tmp 71) (.tmp 77) 74 3 rfl (.int .i64 0) 1 8 Try.underlying74 info3 rfl (by decide) (.slice Ak nk ck) ((((S.ln a b).all.drop C).take i).flatMap icell) rfl Hr3.out (some ⟨wr.heap.size, 0, none⟩) 1 1 ([y].flatMap icell) rfl rfl Hrd3.out Hone.out Hlen.out Hby.out ?_
                           intro v4 w4 hr4 hg4 hb4
                           obtain ⟨A4, n4, cap4, rfl, hn4⟩ := hr4.form
                           obtain ⟨q8, q7, qfr⟩ := Hk4.out w4 hg4
                           obtain ⟨_, p1, _, _, pf⟩ := four_cells q8
                           have Hr4 := Lib.hid hr4
                           have Hb4 := Lib.hid hb4
                           have Hq8 := Lib.hid q8
                           have Hq7 := Lib.hid q7
                           have Hqfr := Lib.hid qfr
                           clear hr4 hg4 hb4 hn4 q8 q7 qfr)
            all_goals (
             as_aux_lemma =>
              go_wp2_with fail
              go_roundw
              case rel =>
                have hle := hlt
                have hn4 := Hnw.out _ Hb4.out
                refine ⟨p + 1, .slice A4 n4 cap4, Nat.le_succ_of_le HpC.out, hle, by go_num, heap_setCell_same w4 G8 1 _ 161 _ Hq8.out, ?_, ?_, hn4, Hqfr.out.setCell (.inr (by rw [HG8.out]; exact Nat.le_refl _)) _⟩
                · rw [setCell_other (by show G7 ≠ G8; have := HG8.out; have := HG7.out; have := HsB.out; omega)]; exact Hq7.out
                · rw [show p + 1 - C = i + 1 from by have := HpC.out; have := Hpi.out; omega, Htk.out, List.flatMap_append]
                  exact Hr4.out.kept (fun k hk => setCell_other (by show k ≠ G8; exact Nat.ne_of_gt (hn4 k hk)))
              case measure => (simp [intOf]; omega))
         · have h3I : ¬ (p : Int) < K := by omega
           have hii : i = K - C := by omega
           have hfw := HfB.out.trans0 hfr
           have grl : gr < w'.heap.size := (Hh.out.row a Hha.out).lt Hbr.out
           have gpl : gp < w'.heap.size := Hh.out.out.lt Hbp.out
           have gl : g < w'.heap.size := (Array.getElem?_eq_some_iff.1 Hh.out.obj).1
           have hwr := hfw.size
           obtain ⟨c0', _, _, c3', _⟩ := (Hh.out.fr hfw (fun _ _ h => h)).cells
           have hAt := (Hh.out.fr hfw (fun _ _ h => h)).ms a b Hha.out Hhb.out
           rw [HvM.out] at hAt
           obtain ⟨gp1, op1, cp1, gr1, orr1, cr1, A1, cap1, AM1, capM1, he1, _, e0, hvr1, _, hv1, hvM1, q0, q1, q2, q3, qf⟩ := (Hh.out.fr hfw (fun _ _ h => h)).pairAt Hha.out Hhb.out
           cases he1
           rw [Hvr.out] at hvr1
           cases hvr1
           rw [HvM.out] at hvM1
           cases hvM1
           obtain ⟨w3, hw3⟩ : ∃ w3, w3 = (wr.alloc (.cells #[.int .i64 ((C : Int) + 1), .slice Ak nk ck, .int .i64 ((S.ln b a).rcv : Int), .bool (S.ac a).r] 161)).drew := ⟨_, rfl⟩
           have f3 : Fr None' wr w3 := by rw [hw3]; exact ((Fr.refl None' wr).alloc _).drew
           have hrow3 := hAt.fr f3 (fun _ _ h => h)
           have hrd3 : ReadsAs w3 (some ⟨wr.heap.size, 0, none⟩) ([(Value.slice Ak nk ck, eMsg S a b)].flatMap qcells) := by
             have e : [(Value.slice Ak nk ck, eMsg S a b)].flatMap qcells = [.int .i64 ((C : Int) + 1), .slice Ak nk ck, .int .i64 ((S.ln b a).rcv : Int), .bool (S.ac a).r] := by rw [HC.out]; rfl
             rw [hw3, e]
             exact reads_blk (show (wr.alloc (.cells #[.int .i64 ((C : Int) + 1), .slice Ak nk ck, .int .i64 ((S.ln b a).rcv : Int), .bool (S.ac a).r] 161)).heap[wr.heap.size]? = _ from heap_alloc_new _ _)
           have hmq : ((mz a b).flatMap qcells).length = (S.ln a b).ms.length * 4 := by
             rw [flat_length _ 4 qcells_len, ← Hh.out.mq a b Hha.out Hhb.out, List.length_map]
           have hlen : ((mz a b).flatMap qcells).length + ([(Value.slice Ak nk ck, eMsg S a b)].flatMap qcells).length ≤ 9007199254740992 := by
             rw [hmq, flat_length _ 4 qcells_len, List.length_singleton]; exact lim1 (by omega) (by decide)
           have hby : ((((mz a b).flatMap qcells).length + ([(Value.slice Ak nk ck, eMsg S a b)].flatMap qcells).length) / 4) * 48 ≤ 140737488355328 := by
             rw [hmq, flat_length _ 4 qcells_len, List.length_singleton]; exact lim4b (by omega) (by decide)
           have hone : ∀ u ∈ ([(Value.slice Ak nk ck, eMsg S a b)].flatMap qcells), u.oneCell' = true := by
             intro u hu
             simp only [List.flatMap_cons, List.flatMap_nil, qcells, List.append_nil, List.mem_cons, List.not_mem_nil, or_false] at hu
             rcases hu with rfl | rfl | rfl | rfl <;> rfl
           have l8 : G8 < wr.heap.size := (Array.getElem?_eq_some_iff.1 hk8).1
           have l7 : G7 < wr.heap.size := (Array.getElem?_eq_some_iff.1 hk7).1
           have kk : ∀ j o v, j < wr.heap.size → wr.cell? ⟨j, o, none⟩ = some v → w3.cell? ⟨j, o, none⟩ = some v := fun j o v hj hc => (World.cell?_of_block (f3.block j hj (fun h => h))).trans hc
           have k3 : w3.cell? ⟨g, 3, none⟩ = some (.slice (some ⟨gp, op, none⟩) S.acc.length cp) ∧ w3.cell? ⟨gp, op + a, none⟩ = some (.slice (some ⟨gr, orr, none⟩) S.acc.length cr) ∧ w3.cell? ⟨G7, 3, none⟩ = some (.slice AM (S.ln a b).ms.length capM) ∧
               w3.cell? ⟨G8, 0, none⟩ = some (.int .i64 ((C : Int) + 1)) ∧ w3.cell? ⟨G8, 1, none⟩ = some (.slice Ak nk ck) ∧ w3.cell? ⟨G8, 2, none⟩ = some (.int .i64 ((S.ln b a).rcv : Int)) ∧ w3.cell? ⟨G8, 3, none⟩ = some (.bool (S.ac a).r) :=
             ⟨kk _ _ _ (by omega) c3', kk _ _ _ (by omega) e0, kk _ _ _ l7 z3, kk _ _ _ l8 y0, kk _ _ _ l8 y1, kk _ _ _ l8 y2, kk _ _ _ l8 y3⟩
           have k4 : ∀ w4 : World, w3.grownBy w4 (rowBlk (.slice AM (S.ln a b).ms.length capM)) → (∀ j, j < wr.heap.size → ρ j ≠ .ms a b ∨ w'.heap.size ≤ j → w4.heap[j]? = wr.heap[j]?) ∧ (∀ o, w4.frozen? ⟨gr, o, none⟩ = false) ∧ (∃ u, w4.cell? ⟨gr, orr + b * 4 + 3, none⟩ = some u) := by
             intro w4 hg4
             have hM : ∀ k, rowBlk (.slice AM (S.ln a b).ms.length capM) = some k → ρ k = .ms a b ∧ k < w'.heap.size := by rw [← HvM.out]; exact fun k hk => ⟨Hh.out.rm a b Hha.out Hhb.out k hk, (Hh.out.ms a b Hha.out Hhb.out).lt hk⟩
             have key : ∀ j, j < wr.heap.size → (ρ j ≠ .ms a b ∨ w'.heap.size ≤ j) → w4.heap[j]? = wr.heap[j]? := fun j hj hn => (hg4.block j (by have := f3.size; omega) (fun e => by
               have h1 := hM j e.symm
               rcases hn with hn | hn
               · exact hn h1.1
               · omega)).trans (f3.block j hj (fun h => h))
             have kr := key gr (by omega) (.inl (by rw [Hh.out.rw_ a Hha.out gr Hbr.out]; simp))
             refine ⟨key, fun o => ?_, ⟨_, (World.cell?_of_block kr).trans q3⟩⟩
             have := qf o
             unfold World.frozen? at this ⊢
             rw [kr]; exact this
           have k5 : ∀ w4 : World, w3.grownBy w4 (rowBlk (.slice AM (S.ln a b).ms.length capM)) → w4.cell? ⟨g, 3, none⟩ = some (.slice (some ⟨gp, op, none⟩) S.acc.length cp) ∧ w4.cell? ⟨gp, op + a, none⟩ = some (.slice (some ⟨gr, orr, none⟩) S.acc.length cr) ∧ w4.cell? ⟨G7, 3, none⟩ = some (.slice AM (S.ln a b).ms.length capM) ∧
               w4.cell? ⟨G8, 0, none⟩ = some (.int .i64 ((C : Int) + 1)) ∧ w4.cell? ⟨G8, 1, none⟩ = some (.slice Ak nk ck) ∧ w4.cell? ⟨G8, 2, none⟩ = some (.int .i64 ((S.ln b a).rcv : Int)) ∧ w4.cell? ⟨G8, 3, none⟩ = some (.bool (S.ac a).r) := by
             intro w4 hg4
             have key := (k4 w4 hg4).1
             have g8 := key G8 l8 (.inr (by omega))
             exact ⟨(World.cell?_of_block (key g (by omega) (.inl (by rw [Hh.out.rg]; simp)))).trans c3', (World.cell?_of_block (key gp (by omega) (.inl (by rw [Hh.out.ro gp Hbp.out]; simp)))).trans e0,
               (World.cell?_of_block (key G7 l7 (.inr (by omega)))).trans z3, (World.cell?_of_block g8).trans y0, (World.cell?_of_block g8).trans y1, (World.cell?_of_block g8).trans y2, (World.cell?_of_block g8).trans y3⟩
           have ng : g ≠ gr := fun e => by have h1 := Hh.out.rw_ a Hha.out gr Hbr.out; rw [← e, Hh.out.rg] at h1; cases h1
           have ngp : gp ≠ gr := fun e => by have h1 := Hh.out.rw_ a Hha.out gr Hbr.out; rw [← e, Hh.out.ro gp Hbp.out] at h1; cases h1
           have n78 : G7 ≠ gr ∧ G8 ≠ gr := by constructor <;> omega
           have hr1 : Row wr 1 (.slice Ak nk ck) (((S.ln a b).all.drop (S.ln a b).conf).flatMap icell) := by
             have e : ((S.ln a b).all.drop C).take i = (S.ln a b).all.drop (S.ln a b).conf := by
               rw [← HC.out, List.take_of_length_le]
               rw [List.length_drop, ← HKK.out]; omega
             rw [← e]; exact hrow
           have hb1 : ∀ k, rowBlk (.slice Ak nk ck) = some k → w'.heap.size ≤ k := fun k hk => by have := hnew k hk; omega
           have Hr1 := Lib.hid hr1
           have Hb1 := Lib.hid hb1
           have Hfw := Lib.hid hfw
           have Hf3 := Lib.hid f3
           have Hk5 := Lib.hid k5
           have Hn78 := Lib.hid n78
           have Hng := Lib.hid ng
           have Hngp := Lib.hid ngp
           have Hk4 := Lib.hid k4
           have Hk3 := Lib.hid k3
           have Hw3 := Lib.hid hw3
           have Hr3 := Lib.hid hrow3
           have Hrd3 := Lib.hid hrd3
           have Hone := Lib.hid hone
           have Hlen := Lib.hid hlen
           have Hby := Lib.hid hby
           clear hk8 hk7 hrow hnew hfr hlk hszr hG8r hG7r hsB hfw hr1 hb1 f3 k4 k5 ng ngp n78 k3 hw3 hrow3 hrd3 hone hlen hby l8 l7 kk hmq hAt yf z1 z2 q0 q1 q2 q3 qf grl gpl gl hwr hlenk c0' hii hi hpC hpi
           as_aux_lemma =>
            go_wp2_with fail
            obtain ⟨m1, m2, m3, m4, m5, m6, m7⟩ := Hk3.out
            obtain rfl := Hw3.out
            go_region_held3 (fun W => W.cell? ⟨g, 3, none⟩ = some (.slice (some ⟨gp, op, none⟩) S.acc.length cp) ∧ W.cell? ⟨gp, op + a, none⟩ = some (.slice (some ⟨gr, orr, none⟩) S.acc.length cr) ∧ W.cell? ⟨G7, 3, none⟩ = some (.slice AM (S.ln a b).ms.length capM) ∧ W.cell? ⟨G8, 0, none⟩ = some (.int .i64 ((C : Int) + 1)) ∧ W.cell? ⟨G8, 1, none⟩ = some (.slice Ak nk ck) ∧ W.cell? ⟨G8, 2, none⟩ = some (.int .i64 ((S.ln b a).rcv : Int)) ∧ W.cell? ⟨G8, 3, none⟩ = some (.bool (S.ac a).r))
              (first | exact ⟨c3', e0, z3, y0, y1, y2, y3⟩ | exact ⟨m1, m2, m3, m4, m5, m6, m7⟩ | exact ⟨n1, n2, n3, n4', n5, n6, n7⟩ | exact ⟨o1, o2, o3, o4, o5, o6, o7⟩)
              (first | (refine step_append_row ((wr.alloc (.cells #[.int .i64 ((C : Int) + 1), .slice Ak nk ck, .int .i64 ((S.ln b a).rcv : Int), .bool (S.ac a).r] 161)).drew) rfl (.tmp 89) (.tmp 91) 147 161 rfl (.agg #[.int .i64 0, .slice none 0 0, .int .i64 0, .bool false]) 4 48 Try.underlying147 info161 rfl (by decide) (.slice AM (S.ln a b).ms.length capM) ((mz a b).flatMap qcells) rfl Hr3.out (some ⟨wr.heap.size, 0, none⟩) 1 1 ([(Value.slice Ak nk ck, eMsg S a b)].flatMap qcells) rfl rfl Hrd3.out Hone.out Hlen.out Hby.out ?_
                        intro v4 w4 hr4 hg4 hb4
                        obtain ⟨A4, n4, cap4, rfl, hn4⟩ := hr4.form
                        obtain ⟨_, zf, zu, zq⟩ := Hk4.out w4 hg4
                        obtain ⟨n1, n2, n3, n4', n5, n6, n7⟩ := Hk5.out w4 hg4
                        obtain ⟨x7, x8⟩ := Hn78.out
                        have o1 : (w4.setCell ⟨gr, orr + b * 4 + 3, none⟩ (.slice A4 n4 cap4)).cell? ⟨g, 3, none⟩ = some (.slice (some ⟨gp, op, none⟩) S.acc.length cp) := (World.cell?_of_block (setCell_other Hng.out)).trans n1
                        have o2 : (w4.setCell ⟨gr, orr + b * 4 + 3, none⟩ (.slice A4 n4 cap4)).cell? ⟨gp, op + a, none⟩ = some (.slice (some ⟨gr, orr, none⟩) S.acc.length cr) := (World.cell?_of_block (setCell_other Hngp.out)).trans n2
                        have o3 : (w4.setCell ⟨gr, orr + b * 4 + 3, none⟩ (.slice A4 n4 cap4)).cell? ⟨G7, 3, none⟩ = some (.slice AM (S.ln a b).ms.length capM) := (World.cell?_of_block (setCell_other x7)).trans n3
                        have o4 : (w4.setCell ⟨gr, orr + b * 4 + 3, none⟩ (.slice A4 n4 cap4)).cell? ⟨G8, 0, none⟩ = some (.int .i64 ((C : Int) + 1)) := (World.cell?_of_block (setCell_other x8)).trans n4'
                        have o5 : (w4.setCell ⟨gr, orr + b * 4 + 3, none⟩ (.slice A4 n4 cap4)).cell? ⟨G8, 1, none⟩ = some (.slice Ak nk ck) := (World.cell?_of_block (setCell_other x8)).trans n5
                        have o6 : (w4.setCell ⟨gr, orr + b * 4 + 3, none⟩ (.slice A4 n4 cap4)).cell? ⟨G8, 2, none⟩ = some (.int .i64 ((S.ln b a).rcv : Int)) := (World.cell?_of_block (setCell_other x8)).trans n6
                        have o7 : (w4.setCell ⟨gr, orr + b * 4 + 3, none⟩ (.slice A4 n4 cap4)).cell? ⟨G8, 3, none⟩ = some (.bool (S.ac a).r) := (World.cell?_of_block (setCell_other x8)).trans n7
                        have Hr4 := Lib.hid hr4
                        have Hg4 := Lib.hid hg4
                        have Hb4 := Lib.hid hb4
                        clear hr4 hg4 hb4 hn4))
            all_goals (
             as_aux_lemma =>
              go_wp2_with fail
              go_ret
              exact rsend_end Hh.out HF.out Hha.out Hhb.out Hne.out Hok.out Hvr.out Hbr.out Hfw.out Hr1.out Hb1.out Hf3.out Hr4.out (by rw [HvM.out]; exact Hg4.out) (by rw [HvM.out]; exact Hb4.out))
end Go.Proofs.Ytdjaofkbgkifkaa

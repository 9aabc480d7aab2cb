/- The reference of chapter 36: Deliver where a message waits, put back. -/
import Derived.Test.YtdjaofkbgkifkaaE44
set_option linter.unusedVariables false
set_option linter.unusedSimpArgs false
namespace Go.Proofs.Ytdjaofkbgkifkaa
open Go.RowKit

def eAft (lost : Bool) (A B : ES) : ES := match lost with | true => A | false => B
theorem qcells_len1 (q : Value × EM) : ([q].flatMap qcells).length ≤ 1000 := by simp [qcells]
theorem qcells_one (A : Option Addr) (n c : Nat) (m : EM) : ∀ u ∈ [(Value.slice A n c, m)].flatMap qcells, u.oneCell' = true := by
  intro u hu
  simp only [List.flatMap_cons, List.flatMap_nil, qcells, List.append_nil, List.mem_cons, List.not_mem_nil, or_false] at hu
  rcases hu with rfl | rfl | rfl | rfl <;> rfl
set_option maxHeartbeats 40000000 in
set_option maxRecDepth 1000000 in
theorem rdel_again {U : Int} {t : Nat} {w : World} {F : Nat → Prop} {ρ : Nat → RR} {g : Nat} {S : ES} {vU vS vR vP : Value} {vr : Nat → Value} {vT vM : Nat → Nat → Value} {mz : Nat → Nat → List (Value × EM)}
    (h : RefAt w ρ g S vU vS vR vP vr vT vM mz) (hF : ∀ k, ρ k ≠ .other → F k) (hU : U ≤ 1000000000) (hI : Inv U t S) (ht : t ≤ 1000000) {a b : Nat} (ha : a < S.acc.length) (hb : b < S.acc.length) (hne : a ≠ b) {m : EM} {r : List EM} (hms : (S.ln a b).ms = m :: r) (lost : Bool) :
    Calls Try.prog 80 #[.pointer (some ⟨g, 0, none⟩), .int .i64 a, .int .i64 b, .bool lost, .bool true] w (RPost w F g (.bool true) (eAft lost (eNext S a b (r ++ [m])) (eTake (eNext S a b (r ++ [m])) a b m))) := by
  obtain ⟨c0, _, _, c3, cf⟩ := h.cells
  have hia : isB S.acc.length a = true := by simp only [isB, decide_eq_true_eq]; omega
  have hib : isB S.acc.length b = true := by simp only [isB, decide_eq_true_eq]; omega
  have hxb := ES.ac_get hib
  rw [Int.toNat_natCast] at hxb
  obtain ⟨gu, ou, cu, rfl, bu, u0, _⟩ := arr_get ucell_len h.un hxb rfl
  obtain ⟨gv, ov, cv, rfl, bv, r0, _⟩ := arr_get rcell_len h.re hxb rfl
  obtain ⟨gp, op, cp, gr, orr, cr, A, cap, AM, capM, rfl, bp, p0, hvr, hbr, hv, hvM, q0, q1, q2, q3, qf⟩ := h.pairAt ha hb
  obtain ⟨gp', op', cp', gs, os, cs, A', cap', AM', capM', he, _, p0', hvr', hbr', hv', hvM', q0', q1', q2', q3', _⟩ := h.pairAt hb ha
  cases he
  have hok := hI.sh.ok (nat_pair ha hb hne)
  obtain ⟨v1, zs, hz, hzr⟩ : ∃ v1 zs, mz a b = (v1, m) :: zs ∧ zs.map (·.2) = r := by
    have h1 := h.mq a b ha hb
    rw [hms] at h1
    cases e : mz a b with
    | nil => rw [e] at h1; cases h1
    | cons z zs =>
      rw [e] at h1
      obtain ⟨v, x⟩ := z
      simp only [List.map_cons, List.cons.injEq] at h1
      exact ⟨v, zs, by rw [h1.1], h1.2⟩
  have hlz : (S.ln a b).ms.length = zs.length + 1 := by rw [hms, List.length_cons, ← hzr, List.length_map]
  have hmq := hok.mq
  obtain ⟨m1, m2, m3, m4, m5⟩ := hok.mm m (by rw [hms]; simp)
  have him := h.im a b ha hb (v1, m) (by rw [hz]; simp)
  obtain ⟨A1, n1, c1, hv1, hn1, hrd1⟩ := him
  simp only at hv1
  subst hv1
  have hn1' : n1 = m.l - m.f := by rw [hn1]; simp only [EM.tr, List.length_drop, List.length_take]; omega
  have hM := h.ms a b ha hb
  rw [hvM, hz] at hM
  obtain ⟨gM, oM, rfl, hbM, -, e0, e1, e2, e3⟩ := q_get hM (j := 0) rfl
  simp only [Nat.zero_mul, Nat.add_zero] at e0 e1 e2 e3
  have Ha := is_at c0 a
  have Hb := is_at c0 b
  rw [hia] at Ha
  rw [hib] at Hb
  have hab : ((a : Int) == (b : Int)) = false := by rw [beq_eq_false_iff_ne]; omega
  have i0 : ¬ (a : Int) < 0 := by omega
  have i1 : (a : Int) < S.acc.length := by omega
  have j0 : ¬ (b : Int) < 0 := by omega
  have j1 : (b : Int) < S.acc.length := by omega
  obtain ⟨L, hL⟩ : ∃ L, L = (S.ln a b).ms.length := ⟨_, rfl⟩
  rw [← hL] at q3 hvM hM hbM hlz hmq
  have hL1 : ((L : Int) == 0) = false := by rw [beq_eq_false_iff_ne]; omega
  have hL2 : (0 : Int) < L := by omega
  obtain ⟨bx, hbx⟩ : ∃ bx : Obj, bx = .cells #[.int .i64 ((m.f : Int) + 1), .slice A1 n1 c1, .int .i64 (m.c : Int), .bool m.r] 161 := ⟨_, rfl⟩
  obtain ⟨wB, hwB⟩ : ∃ wB, wB = w.alloc bx := ⟨_, rfl⟩
  have fB : Fr None' w wB := by rw [hwB]; exact (Fr.refl None' w).alloc bx
  have kb : wB.heap[w.heap.size]? = some bx := by rw [hwB]; exact heap_alloc_new w bx
  have sB : wB.heap.size = w.heap.size + 1 := by rw [hwB]; exact Array.size_push _
  have gl : g < w.heap.size := (Array.getElem?_eq_some_iff.1 h.obj).1
  have grl : gr < w.heap.size := (h.row a ha).lt hbr
  have gpl : gp < w.heap.size := h.out.lt bp
  have gMl : gM < w.heap.size := hM.lt hbM
  have Hkb := Lib.hid kb
  have HsB := Lib.hid sB
  have HfB := Lib.hid fB
  have HwB := Lib.hid hwB
  have Hbx := Lib.hid hbx
  have Ha := Lib.hid Ha
  have Hb := Lib.hid Hb
  have Hh := Lib.hid h
  have HF := Lib.hid hF
  have HU := Lib.hid hU
  have HI := Lib.hid hI
  have Hok := Lib.hid hok
  have Hha := Lib.hid ha
  have Hhb := Lib.hid hb
  have Hne := Lib.hid hne
  have Hms := Lib.hid hms
  have Hz := Lib.hid hz
  have Hzr := Lib.hid hzr
  have Hm := Lib.hid (show _ ∧ _ ∧ _ ∧ _ ∧ _ from ⟨m1, m2, m3, m4, m5⟩)
  have Hn1 := Lib.hid hn1'
  have Hrd1 := Lib.hid hrd1
  have HM := Lib.hid hM
  have HvM := Lib.hid hvM
  have Hvr := Lib.hid hvr
  have Hbr := Lib.hid hbr
  have Hvr' := Lib.hid hvr'
  have Hbr' := Lib.hid hbr'
  have Hbu := Lib.hid bu
  have Hbv := Lib.hid bv
  have Hbp := Lib.hid bp
  have Hlz := Lib.hid hlz
  have Hmq := Lib.hid hmq
  have HT := Lib.hid ht
  have Hhib := Lib.hid hib
  have Hgl := Lib.hid gl
  have Hgrl := Lib.hid grl
  have Hgpl := Lib.hid gpl
  have HgMl := Lib.hid gMl
  clear kb sB fB hwB hbx h hF hU hI hok ha hb hne hms hz hzr m1 m2 m3 m4 m5 hn1 hn1' hrd1 hM hvM hvr hbr hvr' hbr' bu bv bp hlz hmq ht hib hia hxb hL hbM gl grl gpl gMl hv hv' hvM' q0 q1 q2 q0' q1' q2' q3' u0 r0 p0' cf qf
  as_aux_lemma =>
   go_enter Try.func80, Try.ntmps80
   go_wp2_with fail
   refine Ha.out.mono ?_
   rintro e w' ⟨rfl, rfl⟩
   go_wp2_with fail
   refine Hb.out.mono ?_
   rintro e w' ⟨rfl, rfl⟩
   as_aux_lemma =>
    go_wp2_with fail
    obtain rfl := Hbx.out
    rw [← HwB.out]
    obtain ⟨G, hG⟩ : ∃ G, G = w'.heap.size := ⟨_, rfl⟩
    rw [← hG]
    have HG := Lib.hid hG
    clear hG c0 c3 p0 q3 e0 e1 e2 e3 Ha Hb hab
    as_aux_lemma =>
     go_loopw [12, 13] (fun q iv wr => ∃ p : Nat, 1 ≤ p ∧ p ≤ L ∧ iv = .int .i64 (p : Int) ∧ Row wr 4 q ((zs.take (p - 1)).flatMap qcells) ∧ (∀ k, rowBlk q = some k → G < k) ∧ Fr None' wB wr) (fun _ iv _ => L - (intOf iv).toNat)
     case atStart => exact ⟨1, Nat.le_refl _, by omega, rfl, Row.nil _ _ _, by simp [rowBlk], Fr.refl _ _⟩
     case round =>
       obtain ⟨p, hp1, hpL, rfl, hrow, hnew, hfr⟩ := hrel
       obtain ⟨Ak, nk, ck, rfl, hlk⟩ := hrow.form
       have hszr := hfr.size
       have hGw := HG.out
       have hsB := HsB.out
       have hgl := Hgl.out
       have hgrl := Hgrl.out
       have hgpl := Hgpl.out
       have hgMl := HgMl.out
       have hfw := HfB.out.trans0 hfr
       obtain ⟨_, _, _, c3, _⟩ := (Hh.out.fr hfw (fun _ _ h => h)).cells
       obtain ⟨gp1, op1, cp1, gr1, orr1, cr1, A2, cap2, AM1, capM1, he1, _, p0, hvr1, _, hv1, hvM1, q0, q1, q2, q3, qf⟩ := (Hh.out.fr hfw (fun _ _ h => h)).pairAt Hha.out Hhb.out
       cases he1
       rw [Hvr.out] at hvr1
       cases hvr1
       rw [HvM.out] at hvM1
       obtain ⟨rfl, hLe, rfl⟩ : some (⟨gM, oM, none⟩ : Addr) = AM1 ∧ L = (S.ln a b).ms.length ∧ capM = capM1 := by cases hvM1; exact ⟨rfl, rfl, rfl⟩
       rw [← hLe] at q3
       clear hv1 hvM1 q0 q1 q2
       by_cases hlt : p < L
       · have hpI : (p : Int) < L := by omega
         have hpN : ¬ (p : Int) < 0 := by omega
         have hp1 : p ≤ 1000000 := by have := Hmq.out; omega
         obtain ⟨q, hq⟩ : ∃ q, zs[p - 1]? = some q := ⟨_, List.getElem?_eq_getElem (by have := Hlz.out; omega)⟩
         have hqm : q ∈ mz a b := by rw [Hz.out]; exact List.mem_cons_of_mem _ (List.mem_of_getElem? hq)
         obtain ⟨Aq, nq, cq, hvq, -⟩ := Hh.out.im a b Hha.out Hhb.out q hqm
         obtain ⟨vq, mq⟩ := q
         simp only at hvq
         subst hvq
         have hMr := HM.out.fr hfw (fun _ _ h => h)
         obtain ⟨gM', oM', he2, -, -, e0, e1, e2, e3⟩ := q_get hMr (j := p) (q := (Value.slice Aq nq cq, mq)) (by
           obtain ⟨p', rfl⟩ : ∃ p', p = p' + 1 := ⟨p - 1, by omega⟩
           rw [List.getElem?_cons_succ]; exact hq)
         cases he2
         simp only [] at e0 e1 e2 e3
         obtain ⟨w3, hw3⟩ : ∃ w3, w3 = wr.alloc (.cells #[.int .i64 ((mq.f : Int) + 1), .slice Aq nq cq, .int .i64 (mq.c : Int), .bool mq.r] 161) := ⟨_, rfl⟩
         have f3 : Fr None' wr w3 := by rw [hw3]; exact (Fr.refl None' wr).alloc _
         have hrow3 := hrow.fr f3 (fun _ _ h => h)
         have hrd3 : ReadsAs w3 (some ⟨wr.heap.size, 0, none⟩) ([(Value.slice Aq nq cq, mq)].flatMap qcells) := by
           rw [hw3]
           exact reads_blk (show (wr.alloc (.cells #[.int .i64 ((mq.f : Int) + 1), .slice Aq nq cq, .int .i64 (mq.c : Int), .bool mq.r] 161)).heap[wr.heap.size]? = _ from heap_alloc_new _ _)
         have hone : ∀ u ∈ ([(Value.slice Aq nq cq, mq)].flatMap qcells), u.oneCell' = true := qcells_one _ _ _ _
         have hzl : ((zs.take (p - 1)).flatMap qcells).length ≤ 1000000 := by
           rw [flat_length _ 4 qcells_len, List.length_take]; have := Hmq.out; omega
         have hlen : ((zs.take (p - 1)).flatMap qcells).length + ([(Value.slice Aq nq cq, mq)].flatMap qcells).length ≤ 9007199254740992 := lim1 hzl (qcells_len1 _)
         have hby : ((((zs.take (p - 1)).flatMap qcells).length + ([(Value.slice Aq nq cq, mq)].flatMap qcells).length) / 4) * 48 ≤ 140737488355328 := lim4b hzl (qcells_len1 _)
         have htk : zs.take p = zs.take (p - 1) ++ [(Value.slice Aq nq cq, mq)] := by
           obtain ⟨p', rfl⟩ : ∃ p', p = p' + 1 := ⟨p - 1, by omega⟩
           rw [Nat.add_sub_cancel] at hq ⊢
           rw [List.take_add_one, hq]; rfl
         have Hr3 := Lib.hid hrow3
         have Hrd3 := Lib.hid hrd3
         have Hone := Lib.hid hone
         have Hlen := Lib.hid hlen
         have Hby := Lib.hid hby
         have Htk := Lib.hid htk
         have Hf3 := Lib.hid (hfr.trans0 f3)
         have Hnew := Lib.hid hnew
         have Hs3 := Lib.hid f3.size
         have Hw3 := Lib.hid hw3
         have Hszr := Lib.hid hszr
         clear hrow hnew hfr hlk hszr hGw hsB hgl hgrl hgpl hgMl hfw hLe hMr hqm hq hrow3 hrd3 hone hlen hby htk f3 hw3 qf hzl
         as_aux_lemma =>
          go_wp2_with (at_builtin; rw [← Hw3.out]; refine wpList_append_row w3 rfl _ _ 147 161 rfl _ 4 48 Try.underlying147 info161 rfl (by decide) (.slice Ak nk ck) ((zs.take (p - 1)).flatMap qcells) rfl Hr3.out (some ⟨wr.heap.size, 0, none⟩) 1 1 ([(Value.slice Aq nq cq, mq)].flatMap qcells) rfl rfl Hrd3.out Hone.out Hlen.out Hby.out ?_)
          intro v4 w4 hr4 hg4 hb4
          obtain ⟨A4, n4, cap4, rfl, hn4⟩ := hr4.form
          have Hr4 := Lib.hid hr4
          have Hg4 := Lib.hid hg4
          have Hb4 := Lib.hid hb4
          clear hr4 hg4 hb4 hn4
          as_aux_lemma =>
           go_wp2_with fail
           go_roundw
           case rel =>
             have hszr := Hszr.out
             have hGw := HG.out
             have hsB := HsB.out
             have hs3 := Hs3.out
             refine ⟨p + 1, by omega, by omega, by go_num, ?_, ?_, Hf3.out.grown Hg4.out (fun k hk => .inr (by have := Hnew.out k hk; omega))⟩
             · rw [Nat.add_sub_cancel, Htk.out, List.flatMap_append]; exact Hr4.out
             · intro k hk
               rcases Hb4.out with e | e
               · exact Hnew.out k (by rw [← e]; exact hk)
               · rw [e] at hk; cases hk; omega
           case measure => simp [intOf]; omega
       · have hpI : ¬ (p : Int) < L := by omega
         have hpz : zs.take (p - 1) = zs := List.take_of_length_le (by have := Hlz.out; omega)
         rw [hpz] at hrow
         have hkG : wr.heap[G]? = some (.cells #[.int .i64 ((m.f : Int) + 1), .slice A1 n1 c1, .int .i64 (m.c : Int), .bool m.r] 161) := (hfr.block G (by omega) (fun h => h)).trans (by rw [hGw]; exact Hkb.out)
         obtain ⟨y0, y1, y2, y3, _⟩ := four_cells hkG
         obtain ⟨w3, hw3⟩ : ∃ w3, w3 = wr.alloc (.cells #[.int .i64 ((m.f : Int) + 1), .slice A1 n1 c1, .int .i64 (m.c : Int), .bool m.r] 161) := ⟨_, rfl⟩
         have f3 : Fr None' wr w3 := by rw [hw3]; exact (Fr.refl None' wr).alloc _
         have hrow3 := hrow.fr f3 (fun _ _ h => h)
         have hrd3 : ReadsAs w3 (some ⟨wr.heap.size, 0, none⟩) ([(Value.slice A1 n1 c1, m)].flatMap qcells) := by
           rw [hw3]
           exact reads_blk (show (wr.alloc (.cells #[.int .i64 ((m.f : Int) + 1), .slice A1 n1 c1, .int .i64 (m.c : Int), .bool m.r] 161)).heap[wr.heap.size]? = _ from heap_alloc_new _ _)
         have hone : ∀ u ∈ ([(Value.slice A1 n1 c1, m)].flatMap qcells), u.oneCell' = true := qcells_one _ _ _ _
         have hzl : (zs.flatMap qcells).length ≤ 1000000 := by
           rw [flat_length _ 4 qcells_len]; have := Hmq.out; have := Hlz.out; omega
         have hlen : (zs.flatMap qcells).length + ([(Value.slice A1 n1 c1, m)].flatMap qcells).length ≤ 9007199254740992 := lim1 hzl (qcells_len1 _)
         have hby : (((zs.flatMap qcells).length + ([(Value.slice A1 n1 c1, m)].flatMap qcells).length) / 4) * 48 ≤ 140737488355328 := lim4b hzl (qcells_len1 _)
         have k4 : ∀ (v4 : Value) (w4 : World), w3.grownBy w4 (rowBlk (.slice Ak nk ck)) → (rowBlk v4 = rowBlk (.slice Ak nk ck) ∨ rowBlk v4 = some w3.heap.size) → Fr None' w' w4 ∧ (∀ k, rowBlk v4 = some k → w'.heap.size ≤ k) ∧ w4.heap[G]? = some (.cells #[.int .i64 ((m.f : Int) + 1), .slice A1 n1 c1, .int .i64 (m.c : Int), .bool m.r] 161) := by
           intro v4 w4 hg4 hb4
           have s3 := f3.size
           refine ⟨(hfw.trans0 f3).grown hg4 (fun k hk => .inr (by have := hnew k hk; omega)), fun k hk => ?_, ?_⟩
           · rcases hb4 with e | e
             · have := hnew k (by rw [← e]; exact hk); omega
             · rw [e] at hk; cases hk; omega
           · exact (hg4.block G (by omega) (fun e => by have := hnew G e.symm; omega)).trans ((f3.block G (by omega) (fun h => h)).trans hkG)
         have Hr3 := Lib.hid hrow3
         have Hrd3 := Lib.hid hrd3
         have Hone := Lib.hid hone
         have Hlen := Lib.hid hlen
         have Hby := Lib.hid hby
         have Hw3 := Lib.hid hw3
         have K4 := Lib.hid k4
         clear hrow hnew hfr hlk hszr hGw hsB hgl hgrl hgpl hgMl hfw hLe hrow3 hrd3 hone hlen hby f3 hw3 qf hkG hzl k4 hpz hpL hp1 hlt
         as_aux_lemma =>
          go_wp2_with (at_builtin; rw [← Hw3.out]; refine wpList_append_row w3 rfl _ _ 147 161 rfl _ 4 48 Try.underlying147 info161 rfl (by decide) (.slice Ak nk ck) (zs.flatMap qcells) rfl Hr3.out (some ⟨wr.heap.size, 0, none⟩) 1 1 ([(Value.slice A1 n1 c1, m)].flatMap qcells) rfl rfl Hrd3.out Hone.out Hlen.out Hby.out ?_)
          intro v4 w4 hr4 hg4 hb4
          obtain ⟨A4, n4, cap4, rfl, hn4⟩ := hr4.form
          obtain ⟨hf4, hn4', hkG⟩ := K4.out _ w4 hg4 hb4
          have hr4' : Row w4 4 (.slice A4 n4 cap4) ((zs ++ [(Value.slice A1 n1 c1, m)]).flatMap qcells) := by rw [List.flatMap_append]; exact hr4
          have hzs : ∀ q ∈ zs ++ [(Value.slice A1 n1 c1, m)], q ∈ mz a b := by
            intro q hq
            rw [Hz.out]
            rcases List.mem_append.1 hq with hq | hq
            · exact List.mem_cons_of_mem _ hq
            · rw [List.mem_singleton.1 hq]; exact List.mem_cons_self ..
          have hmap : (zs ++ [(Value.slice A1 n1 c1, m)]).map (·.2) = r ++ [m] := by rw [List.map_append, Hzr.out]; rfl
          clear hr4 hg4 hb4 hn4 c3 p0 q3 y0 y1 y2 y3 Hr3 Hrd3 Hone Hlen Hby Hw3 K4
          have hE := rnext_end Hh.out Hha.out Hhb.out Hne.out Hvr.out Hbr.out hf4 hr4' hn4' hzs
          rw [hmap] at hE
          obtain ⟨ρ', hE, hr1, hr2⟩ := hE
          have hs4 := hf4.size
          have hgl := Hgl.out
          have hgrl := Hgrl.out
          have hgpl := Hgpl.out
          have hGw := HG.out
          obtain ⟨gp1, op1, cp1, gr1, orr1, cr1, A2, cap2, AM1, capM1, he1, _, d0, hvr1, _, hv1, hvM1, f0, f1, f2, f3, qf⟩ := (Hh.out.fr hf4 (fun _ _ h => h)).pairAt Hha.out Hhb.out
          cases he1
          rw [Hvr.out] at hvr1
          cases hvr1
          obtain ⟨_, _, _, d3, _⟩ := (Hh.out.fr hf4 (fun _ _ h => h)).cells
          obtain ⟨w5, hw5⟩ : ∃ w5, w5 = w4.setCell ⟨gr, orr + b * 4 + 3, none⟩ (.slice A4 n4 cap4) := ⟨_, rfl⟩
          rw [← hw5] at hE
          have hF5 : Fr F w' w5 := by
            rw [hw5]
            exact (hf4.mono (fun _ _ h => h.elim)).setCell (p := ⟨gr, orr + b * 4 + 3, none⟩) (.inl (HF.out gr (by rw [Hh.out.rw_ a Hha.out gr Hbr.out]; simp))) _
          have hs5 : w5.heap.size = w4.heap.size := by rw [hw5, setCell_size]
          have hkG5 : w5.heap[G]? = some (.cells #[.int .i64 ((m.f : Int) + 1), .slice A1 n1 c1, .int .i64 (m.c : Int), .bool m.r] 161) := by
            rw [hw5, setCell_other (by show G ≠ gr; omega)]; exact hkG
          have hEx : ∀ k, ρ' k ≠ .other → Ext F w' w5 k := by
            intro k hk
            by_cases hkw : k < w'.heap.size
            · exact .inl (HF.out k (by rw [← hr1 k hkw]; exact hk))
            · refine .inr ⟨by omega, ?_⟩
              rcases hr2 k hk with h1 | h1
              · exact absurd h1 hkw
              · rw [hs5]; exact h1.2
          have him1 : ∀ k, k < w'.heap.size → ρ k = .imm → ρ' k = .imm := fun k hk hi => by rw [hr1 k hk, hi]
          have Hrd5 := Lib.hid ((show RdR ρ w' (.slice A1 n1 c1) (m.tr (S.ln a b).all) from Hh.out.im a b Hha.out Hhb.out (Value.slice A1 n1 c1, m) (by rw [Hz.out]; simp)).keep (w' := w5) (by omega) (fun k hk hi => by
            have hkr : k ≠ gr := fun e => by have h1 := Hh.out.rw_ a Hha.out gr Hbr.out; rw [← e, hi] at h1; cases h1
            rw [hw5, setCell_other hkr]; exact hf4.block k hk (fun h => h)) him1)
          have HE := Lib.hid hE
          have Hs5 := Lib.hid hs5
          have HF5 := Lib.hid hF5
          have HkG5 := Lib.hid hkG5
          have HEx := Lib.hid hEx
          have Hw5 := Lib.hid hw5
          clear hE hr1 hr2 hs5 hF5 hkG5 hEx hw5 hf4 hr4' hn4' hzs hmap hkG him1 hv1 hvM1 hs4 hgl hgrl hgpl hGw f0 f1 f2
          obtain hlo | hlo : lost = true ∨ lost = false := by cases lost <;> simp
          · subst hlo
            as_aux_lemma =>
             go_wp2_with fail
             go_ret
             rw [← Hw5.out]
             exact ⟨rfl, ⟨ρ', _, _, _, _, _, _, _, _, HE.out, HEx.out⟩, HF5.out⟩
          · subst hlo
            as_aux_lemma =>
             go_wp2_with fail
             rw [← Hw5.out]
             obtain ⟨T, hT⟩ : ∃ T, T = eNext S a b (r ++ [m]) := ⟨_, rfl⟩
             have hpab : pairB S.acc.length a b = true := nat_pair Hha.out Hhb.out Hne.out
             have hIT : Inv U t T := by
               rw [hT]
               refine eNext_inv HI.out hpab _ ?_ ?_
               · have h1 := Hok.out.mq
                 rw [Hms.out] at h1
                 simp only [List.length_append, List.length_cons, List.length_nil] at h1 ⊢
                 omega
               · intro x hx
                 rw [Hms.out]
                 simp only [List.mem_append, List.mem_singleton, List.mem_cons] at hx ⊢
                 rcases hx with hx | hx | hx <;> first | exact .inr hx | exact .inl hx | cases hx
             have hTl : T.acc.length = S.acc.length := by rw [hT]; rfl
             have hTab : T.ln a b = { S.ln a b with ms := (r ++ [m]) } := by rw [hT]; exact ES.putL_same _ _ _ _
             have hpT : pairB T.acc.length a b = true := by rw [hTl]; exact hpab
             have hibT : isB T.acc.length (b : Int) = true := by rw [hTl]; exact Hhib.out
             have hE0 := HE.out
             rw [← hT] at hE0 ⊢
             have hall : (T.ln a b).all = (S.ln a b).all := by rw [hTab]
             have hrcv : (T.ln a b).rcv = (S.ln a b).rcv := by rw [hTab]
             have HIT := Lib.hid hIT
             have HTl := Lib.hid hTl
             have HpT := Lib.hid hpT
             have HibT := Lib.hid hibT
             obtain ⟨mz1, hmz1⟩ : ∃ z, z = nupd mz a b (zs ++ [(Value.slice A1 n1 c1, m)]) := ⟨_, rfl⟩
             obtain ⟨vM1, hvM1⟩ : ∃ z, z = nupd vM a b (.slice A4 n4 cap4) := ⟨_, rfl⟩
             rw [← hmz1, ← hvM1] at hE0
             clear hmz1 hvM1
             have HE0 := Lib.hid hE0
             have Hall := Lib.hid hall
             have Hrcv := Lib.hid hrcv
             have HTT := Lib.hid hT
             clear hT hIT hTl hTab hpT hibT hE0 hall hrcv hpab
             as_aux_lemma =>
              go_loopw [14] (fun iv wr => ∃ i : Nat, i ≤ n1 ∧ iv = .int .i64 (i : Int) ∧ RefAt wr ρ' g (eUpTo T a b (m.f + i)) (.slice (some ⟨gu, ou, none⟩) S.acc.length cu) vS (.slice (some ⟨gv, ov, none⟩) S.acc.length cv) (.slice (some ⟨gp, op, none⟩) S.acc.length cp) vr vT vM1 mz1 ∧ Fr (fun k => k = gu ∨ k = gr) w5 wr) (fun iv _ => n1 - (intOf iv).toNat)
              case atStart =>
                refine ⟨0, Nat.zero_le _, rfl, ?_, Fr.refl _ _⟩
                rw [Nat.add_zero, up_zero HibT.out (by rw [Hrcv.out]; exact Hm.out.1)]
                exact HE0.out
              case round =>
                obtain ⟨i, hi, rfl, hE, hfr⟩ := hrel
                have hgl := Hgl.out
                have hgrl := Hgrl.out
                have hgpl := Hgpl.out
                have hGw := HG.out
                have hul : gu < w'.heap.size := Hh.out.un.lt Hbu.out
                have hs5 := HF5.out.size
                have hsr := hfr.size
                have hlen : (eUpTo T a b (m.f + i)).acc.length = S.acc.length := (up_len _ _ _ _).trans HTl.out
                obtain ⟨u0, uf⟩ := hE.unLit (b := b) (by rw [hlen]; exact Hhib.out)
                obtain ⟨p0, q1, _, qf, hbp, hbr⟩ := hE.pairLit (a := a) (b := b) Hvr.out (by rw [hlen]; exact Hha.out) (by rw [hlen]; exact Hhb.out)
                obtain ⟨c0, _, _, c3, _⟩ := hE.cells
                have rgu : ρ' gu = .un := hE.ru gu Hbu.out
                have rgr : ρ' gr = .row a := hE.rw_ a (by rw [hlen]; exact Hha.out) gr Hbr.out
                have rgp : ρ' gp = .out := hE.ro gp Hbp.out
                have rgg : ρ' g = .main := hE.rg
                have nur : gu ≠ gr := fun e => by rw [e, rgr] at rgu; cases rgu
                have ngu : g ≠ gu := fun e => by rw [e, rgu] at rgg; cases rgg
                have npu : gp ≠ gu := fun e => by rw [e, rgu] at rgp; cases rgp
                rw [up_ln] at q1
                obtain ⟨R, hR⟩ : ∃ R, R = max (T.ln a b).rcv (m.f + i) := ⟨_, rfl⟩
                obtain ⟨ub, hub⟩ : ∃ ub, ub = ((eUpTo T a b (m.f + i)).ac b).u := ⟨_, rfl⟩
                simp only [← hR] at q1
                rw [← hub] at u0
                have hkG : wr.heap[G]? = some (.cells #[.int .i64 ((m.f : Int) + 1), .slice A1 n1 c1, .int .i64 (m.c : Int), .bool m.r] 161) := (hfr.block G (Array.getElem?_eq_some_iff.1 HkG5.out).1 (by rintro (e | e) <;> omega)).trans HkG5.out
                have hfl : m.f ≤ 1000000 := by have := Hm.out; have := Hok.out.tm; have := HT.out; omega
                have hnl : n1 ≤ 1000 := by have := Hm.out; have := Hn1.out; omega
                by_cases hlt : i < n1
                · have hltI : (i : Int) < n1 := by omega
                  have hiN : ¬ (i : Int) < 0 := by omega
                  obtain ⟨A1', n1', c1', hev, hnl', hel⟩ := Hrd5.out
                  simp only [Value.slice.injEq] at hev
                  obtain ⟨rfl, rfl, rfl⟩ := hev
                  obtain ⟨g1, o1, rfl, hi1, hl1, hc1⟩ := hel (by omega)
                  have hmm := Hm.out
                  have hx : (S.ln a b).all[m.f + i]? = some ((S.ln a b).all[m.f + i]'(by have := Hn1.out; omega)) := List.getElem?_eq_getElem _
                  generalize (S.ln a b).all[m.f + i]'(by have := Hn1.out; omega) = x at hx
                  have hxi : (m.tr (S.ln a b).all)[i]? = some x := by
                    rw [EM.tr, List.getElem?_drop, List.getElem?_take, if_pos (by have := Hn1.out; omega)]; exact hx
                  have n1u : g1 ≠ gu := fun e => by rw [e, rgu] at hi1; cases hi1
                  have n1r : g1 ≠ gr := fun e => by rw [e, rgr] at hi1; cases hi1
                  have hcx : wr.cell? ⟨g1, o1 + i, none⟩ = some (.int .i64 x) := hfr.cell (hc1 i x hxi) (by rintro (e | e); exact n1u e; exact n1r e)
                  obtain ⟨y0, y1, _, _, _⟩ := four_cells hkG
                  have facts : ∀ W, Fr None' wr W → W.cell? ⟨g, 0, none⟩ = some (.slice (some ⟨gu, ou, none⟩) S.acc.length cu) ∧ W.cell? ⟨g, 3, none⟩ = some (.slice (some ⟨gp, op, none⟩) S.acc.length cp) ∧ W.cell? ⟨gp, op + a, none⟩ = some (.slice (some ⟨gr, orr, none⟩) S.acc.length cr) ∧ W.cell? ⟨gr, orr + b * 4 + 1, none⟩ = some (.int .i64 (R : Int)) ∧
                      W.cell? ⟨gu, ou + b, none⟩ = some (.int .i64 ub) ∧ (∀ o, W.frozen? ⟨gu, o, none⟩ = false) ∧ W.cell? ⟨G, 0, none⟩ = some (.int .i64 ((m.f : Int) + 1)) ∧ W.cell? ⟨G, 1, none⟩ = some (.slice (some ⟨g1, o1, none⟩) n1 c1) ∧ W.cell? ⟨g1, o1 + i, none⟩ = some (.int .i64 x) := by
                    intro W hW
                    refine ⟨hW.cell c0 id, hW.cell c3 id, hW.cell p0 id, hW.cell q1 id, hW.cell u0 id, fun o => ?_, hW.cell y0 id, hW.cell y1 id, hW.cell hcx id⟩
                    have h1 := uf o
                    unfold World.frozen? at h1 ⊢
                    rw [hW.block gu (by omega) id]; exact h1
                  have facts2 : ∀ W, Fr (fun k => k = gu) wr W → W.cell? ⟨g, 3, none⟩ = some (.slice (some ⟨gp, op, none⟩) S.acc.length cp) ∧ W.cell? ⟨gp, op + a, none⟩ = some (.slice (some ⟨gr, orr, none⟩) S.acc.length cr) ∧ W.cell? ⟨gr, orr + b * 4 + 1, none⟩ = some (.int .i64 (R : Int)) ∧ (∀ o, W.frozen? ⟨gr, o, none⟩ = false) ∧ W.cell? ⟨G, 0, none⟩ = some (.int .i64 ((m.f : Int) + 1)) := by
                    intro W hW
                    refine ⟨hW.cell c3 ngu, hW.cell p0 npu, hW.cell q1 (fun e => nur e.symm), fun o => ?_, hW.cell y0 (by show G ≠ gu; omega)⟩
                    have h1 := qf o
                    unfold World.frozen? at h1 ⊢
                    rw [hW.block gr (by omega) (fun e => nur e.symm)]; exact h1
                  have hxp := Hok.out.pos x (List.mem_of_getElem? hx)
                  have hbnd : 0 ≤ ub ∧ ub ≤ 1000000000 := by
                    have h1 := up_bound HIT.out HpT.out (m.f + i)
                    rw [← hub] at h1
                    have := HU.out; omega
                  have hxT : (T.ln a b).all[m.f + i]? = some x := by rw [Hall.out]; exact hx
                  by_cases hc : (T.ln a b).rcv ≤ m.f + i
                  · have hcnd : (R : Int) < (m.f : Int) + 1 + i := by rw [hR, Nat.max_eq_right hc]; omega
                    have hstep := up_step HibT.out hc hxT
                    have hub1 : ub + x ≤ 1000000000 := by
                      have h1 := up_bound HIT.out HpT.out (m.f + i + 1)
                      rw [← hstep] at h1
                      have e : ((((eUpTo T a b (m.f + i)).putA b ⟨((eUpTo T a b (m.f + i)).ac b).u + x, ((eUpTo T a b (m.f + i)).ac b).s, ((eUpTo T a b (m.f + i)).ac b).r⟩).putL a b { (eUpTo T a b (m.f + i)).ln a b with rcv := m.f + i + 1 }).ac b) = ⟨((eUpTo T a b (m.f + i)).ac b).u + x, ((eUpTo T a b (m.f + i)).ac b).s, ((eUpTo T a b (m.f + i)).ac b).r⟩ := ES.putA_same (by rw [up_len]; exact HibT.out) _
                      rw [e] at h1
                      simp only [← hub] at h1
                      have := HU.out; omega
                    have hbnd1 := hbnd.1
                    have hbnd2 := hbnd.2
                    obtain ⟨f1, f2, f3, f4, f5, f6, f7, f8, f9⟩ := facts wr (Fr.refl _ _)
                    have Facts := Lib.hid facts
                    have Facts2 := Lib.hid facts2
                    have Hfr := Lib.hid hfr
                    have HEi := Lib.hid hE
                    have Hlen := Lib.hid hlen
                    have Hstep := Lib.hid hstep
                    have Hub := Lib.hid hub
                    have HR := Lib.hid hR
                    clear facts facts2 hfr hE hlen hstep hub hR hgl hgrl hgpl hGw hul hs5 hsr u0 uf p0 q1 qf hbp hbr c0 c3 rgu rgr rgp rgg nur ngu npu hkG hnl' hel hi1 hl1 hc1 hmm hx hxi n1u n1r hcx y0 y1 hbnd hxT hc hlt
                    as_aux_lemma =>
                     go_wp2_with fail
                     go_region
                     go_wp2_with fail
                     obtain ⟨f1, f2, f3, f4, f5, f6, f7, f8, f9⟩ := Facts.out wr.drew (Fr.refl _ _).drew
                     go_region
                     generalize hw6 : (World.setCell _ _ _) = w6
                     have hf6 : Fr (fun k => k = gu) wr w6 := by
                       rw [← hw6]
                       exact Fr.setCell (F := fun k => k = gu) (Fr.refl _ wr) (p := ⟨gu, ou + b, none⟩) (.inl rfl) _
                     have hE6 : RefAt w6 ρ' g ((eUpTo T a b (m.f + i)).putA b ⟨ub + x, ((eUpTo T a b (m.f + i)).ac b).s, ((eUpTo T a b (m.f + i)).ac b).r⟩) (.slice (some ⟨gu, ou, none⟩) S.acc.length cu) vS (.slice (some ⟨gv, ov, none⟩) S.acc.length cv) (.slice (some ⟨gp, op, none⟩) S.acc.length cp) vr vT vM1 mz1 := by
                       have hxa := ES.ac_get (S := eUpTo T a b (m.f + i)) (i := b) (by rw [up_len]; exact HibT.out)
                       rw [Int.toNat_natCast] at hxa
                       rw [← hw6]
                       exact HEi.out.setUn Hbu.out hxa (ub + x)
                     obtain ⟨e1, e2, e3, e4, e5⟩ := Facts2.out w6 hf6
                     have Hf6 := Lib.hid hf6
                     have HE6 := Lib.hid hE6
                     clear hf6 hE6 hw6 f1 f2 f3 f4 f5 f6 f7 f8 f9
                     as_aux_lemma =>
                      go_wp2_with fail
                      go_region
                      generalize hw7 : (World.setCell _ _ _) = w7
                      have Hw7 := Lib.hid hw7
                      clear hw7
                      go_wp2_with fail
                      go_roundw
                      case rel =>
                        refine ⟨i + 1, by omega, by go_num, ?_, ?_⟩
                        · rw [← Nat.add_assoc, ← Hstep.out, ← Hub.out]
                          refine RefAt.fr (w := w7) ?_ (H := None') (((Fr.refl _ _).drew).drew).drew (fun _ _ h => h)
                          rw [← Hw7.out]
                          have hset : ∀ v0 v2 v3 : Value, [v0, .int .i64 ((m.f + i + 1 : Nat) : Int), v2, v3] = [v0, .int .i64 (((eUpTo T a b (m.f + i)).ln a b).rcv : Int), v2, v3].set 1 (.int .i64 ((m.f : Int) + 1 + i)) := by
                            intro v0 v2 v3
                            have e : ((m.f + i + 1 : Nat) : Int) = (m.f : Int) + 1 + i := by omega
                            rw [e]; rfl
                          have hla : a < ((eUpTo T a b (m.f + i)).putA b ⟨ub + x, ((eUpTo T a b (m.f + i)).ac b).s, ((eUpTo T a b (m.f + i)).ac b).r⟩).acc.length := by rw [ES.putA_len, Hlen.out]; exact Hha.out
                          have hlb : b < ((eUpTo T a b (m.f + i)).putA b ⟨ub + x, ((eUpTo T a b (m.f + i)).ac b).s, ((eUpTo T a b (m.f + i)).ac b).r⟩).acc.length := by rw [ES.putA_len, Hlen.out]; exact Hhb.out
                          exact HE6.out.setPair (l := { (eUpTo T a b (m.f + i)).ln a b with rcv := m.f + i + 1 }) hla hlb Hne.out (by rw [ES.putA_len, Hlen.out]; exact Hvr.out) Hbr.out rfl rfl (j := 1) (by decide) (hset _ _ _)
                        · refine Fr.trans0 (b := w7) ?_ (((Fr.refl _ _).drew).drew).drew
                          rw [← Hw7.out]
                          exact (Hfr.out.trans Hf6.out (fun _ _ e => .inl e)).setCell (p := ⟨gr, orr + b * 4 + 1, none⟩) (.inl (.inr rfl)) _
                      case measure => simp [intOf]; omega
                  · have hcnd : ¬ (R : Int) < (m.f : Int) + 1 + i := by rw [hR, Nat.max_eq_left (by omega)]; omega
                    have hskip := up_skip (a := (a : Int)) HibT.out (n := m.f + i) (by omega)
                    obtain ⟨f1, f2, f3, f4, f5, f6, f7, f8, f9⟩ := facts wr (Fr.refl _ _)
                    have Hfr := Lib.hid hfr
                    have HEi := Lib.hid hE
                    have Hskip := Lib.hid hskip
                    clear facts facts2 hfr hE hlen hskip hub hR hgl hgrl hgpl hGw hul hs5 hsr u0 uf p0 q1 qf hbp hbr c0 c3 rgu rgr rgp rgg nur ngu npu hkG hnl' hel hi1 hl1 hc1 hmm hx hxi n1u n1r hcx y0 y1 hbnd hxT hc hlt
                    as_aux_lemma =>
                     go_wp2_with fail
                     go_region
                     go_wp2_with fail
                     go_roundw
                     case rel =>
                       refine ⟨i + 1, by omega, by go_num, ?_, Hfr.out.drew⟩
                       rw [← Nat.add_assoc, Hskip.out]
                       exact HEi.out.fr ((Fr.refl None' wr).drew) (fun _ _ h => h)
                     case measure => simp [intOf]; omega
                · have hltI : ¬ (i : Int) < n1 := by omega
                  have hil : m.f + i = m.l := by have := Hm.out; have := Hn1.out; omega
                  rw [hil] at hE hlen
                  obtain ⟨p0', _, q2', qf', _, hbr'⟩ := hE.pairLit (a := b) (b := a) Hvr'.out (by rw [hlen]; exact Hhb.out) (by rw [hlen]; exact Hha.out)
                  obtain ⟨r0, rf⟩ := hE.reLit (b := b) (by rw [hlen]; exact Hhib.out)
                  obtain ⟨_, _, c2, _, _⟩ := hE.cells
                  rw [up_back _ (by have := Hne.out; omega)] at q2'
                  obtain ⟨K0, hK0⟩ : ∃ K0, K0 = (T.ln b a).conf := ⟨_, rfl⟩
                  rw [← hK0] at q2'
                  obtain ⟨y0, y1, y2, y3, _⟩ := four_cells hkG
                  have rgs : ρ' gs = .row b := hE.rw_ b (by rw [hlen]; exact Hhb.out) gs Hbr'.out
                  have rgv : ρ' gv = .re := hE.rr gv Hbv.out
                  have nvs : gv ≠ gs := fun e => by rw [e, rgs] at rgv; cases rgv
                  have ngs : g ≠ gs := fun e => by rw [e, rgs] at rgg; cases rgg
                  have hsl : gs < w'.heap.size := (Hh.out.row b Hhb.out).lt Hbr'.out
                  have hvl : gv < w'.heap.size := Hh.out.re.lt Hbv.out
                  have hFs : F gs := HF.out gs (by rw [Hh.out.rw_ b Hhb.out gs Hbr'.out]; simp)
                  have hFv : F gv := HF.out gv (by rw [Hh.out.rr gv Hbv.out]; simp)
                  have hFu : F gu := HF.out gu (by rw [Hh.out.ru gu Hbu.out]; simp)
                  have hFr : F gr := HF.out gr (by rw [Hh.out.rw_ a Hha.out gr Hbr.out]; simp)
                  have nGs : G ≠ gs := by omega
                  have hFw : Fr F w' wr := HF5.out.trans hfr (fun k hk e => by
                    rcases e with rfl | rfl
                    · exact hFu
                    · exact hFr)
                  have fin : ∀ (wE : World) (T' : ES), Fr (fun k => k = gs ∨ k = gv) wr wE → T' = eTake T a b m → RefAt wE ρ' g T' (.slice (some ⟨gu, ou, none⟩) S.acc.length cu) vS (.slice (some ⟨gv, ov, none⟩) S.acc.length cv) (.slice (some ⟨gp, op, none⟩) S.acc.length cp) vr vT vM1 mz1 →
                      RefIs wE (Ext F w' wE) g (eTake T a b m) ∧ Fr F w' wE := by
                    intro wE T' hfE hT' hE'
                    have hsE := hfE.size
                    refine ⟨⟨ρ', _, _, _, _, _, _, _, _, hT' ▸ hE', fun k hk => ?_⟩, hFw.trans hfE (fun k hk e => by
                      rcases e with rfl | rfl
                      · exact hFs
                      · exact hFv)⟩
                    rcases HEx.out k hk with h1 | h1
                    · exact .inl h1
                    · exact .inr ⟨h1.1, by omega⟩
                  have facts2 : ∀ W, Fr (fun k => k = gs) wr W → W.cell? ⟨g, 2, none⟩ = some (.slice (some ⟨gv, ov, none⟩) S.acc.length cv) ∧ W.cell? ⟨gv, ov + b, none⟩ = some (.bool ((eUpTo T a b m.l).ac b).r) ∧ (∀ o, W.frozen? ⟨gv, o, none⟩ = false) ∧ W.cell? ⟨G, 3, none⟩ = some (.bool m.r) := by
                    intro W hW
                    refine ⟨hW.cell c2 ngs, hW.cell r0 nvs, fun o => ?_, hW.cell y3 nGs⟩
                    have h1 := rf o
                    unfold World.frozen? at h1 ⊢
                    rw [hW.block gv (by omega) nvs]; exact h1
                  have hneI : (a : Int) ≠ b := by have := Hne.out; omega
                  have hrl : ∀ o, (wr.drew).frozen? ⟨gs, o, none⟩ = false := qf'
                  have Facts2 := Lib.hid facts2
                  have Fin := Lib.hid fin
                  have HEi := Lib.hid hE
                  have Hlen := Lib.hid hlen
                  have HneI := Lib.hid hneI
                  have Hbr2 := Lib.hid hbr'
                  clear facts2 fin hE hlen hneI hbr' hgl hgrl hgpl hGw hul hs5 hsr u0 uf p0 q1 qf hbp hbr c0 rgu rgr rgp rgg nur ngu npu rgs rgv nvs ngs hsl hvl hFs hFv hFu hFr nGs hFw hkG hfr hR hub hil hlt hfl hnl
                  obtain hr | hr : m.r = true ∨ m.r = false := by cases m.r <;> simp
                  · have hr' := hr
                    rw [hr'] at y3
                    by_cases hc : K0 < m.c
                    · have hcI : (K0 : Int) < m.c := by omega
                      have He := Lib.hid (up_tt HibT.out HneI.out (hK0 ▸ hc) hr)
                      clear hr hc hK0
                      as_aux_lemma =>
                       go_wp2_with fail
                       go_region
                       go_wp2_with fail
                       go_region
                       generalize hw6 : (World.setCell _ _ _) = w6
                       have hf6 : Fr (fun k => k = gs) wr w6 := by
                         rw [← hw6]
                         exact Fr.setCell (F := fun k => k = gs) (Fr.refl _ wr) (p := ⟨gs, os + a * 4 + 2, none⟩) (.inl rfl) _
                       have hE6 : RefAt w6 ρ' g ((eUpTo T a b m.l).putL b a { (eUpTo T a b m.l).ln b a with conf := m.c }) (.slice (some ⟨gu, ou, none⟩) S.acc.length cu) vS (.slice (some ⟨gv, ov, none⟩) S.acc.length cv) (.slice (some ⟨gp, op, none⟩) S.acc.length cp) vr vT vM1 mz1 := by
                         rw [← hw6]
                         exact HEi.out.setPair (by rw [Hlen.out]; exact Hhb.out) (by rw [Hlen.out]; exact Hha.out) (Ne.symm Hne.out) (by rw [Hlen.out]; exact Hvr'.out) Hbr2.out (l := { (eUpTo T a b m.l).ln b a with conf := m.c }) rfl rfl (j := 2) (by decide) rfl
                       obtain ⟨d1, d2, d3, d4⟩ := Facts2.out w6 hf6
                       rw [hr'] at d4
                       have Hf6 := Lib.hid hf6
                       have HE6 := Lib.hid hE6
                       clear hf6 hE6 hw6
                       go_wp2_with fail
                       go_ret
                       have hxa := ES.ac_get (S := eUpTo T a b m.l) (i := b) (by rw [up_len]; exact HibT.out)
                       rw [Int.toNat_natCast] at hxa
                       have hfin := Fin.out _ _ ((((Hf6.out.mono (G := fun k => k = gs ∨ k = gv) (fun _ _ e => .inl e)).setCell (p := ⟨gv, ov + b, none⟩) (.inl (.inr rfl)) (.bool true)).drew).drew) He.out.symm ((HE6.out.setRe Hbv.out hxa true).fr (((Fr.refl None' _).drew).drew) (fun _ _ h => h))
                       rw [HTT.out] at hfin
                       exact ⟨rfl, hfin⟩
                    · have hcI : ¬ (K0 : Int) < m.c := by omega
                      have He := Lib.hid (up_ft HibT.out HneI.out (hK0 ▸ hc) hr)
                      clear hr hc hK0
                      as_aux_lemma =>
                       go_wp2_with fail
                       go_region
                       obtain ⟨d1, d2, d3, d4⟩ := Facts2.out wr.drew (Fr.refl _ _).drew
                       rw [hr'] at d4
                       go_wp2_with fail
                       go_ret
                       have hxa := ES.ac_get (S := eUpTo T a b m.l) (i := b) (by rw [up_len]; exact HibT.out)
                       rw [Int.toNat_natCast] at hxa
                       have hfin := Fin.out _ _ ((Fr.setCell (F := fun k => k = gs ∨ k = gv) (Fr.refl _ wr) (p := ⟨gv, ov + b, none⟩) (.inl (.inr rfl)) (.bool true)).drew) He.out.symm ((HEi.out.setRe Hbv.out hxa true).fr ((Fr.refl None' _).drew) (fun _ _ h => h))
                       rw [HTT.out] at hfin
                       exact ⟨rfl, hfin⟩
                  · have hr' := hr
                    rw [hr'] at y3
                    by_cases hc : K0 < m.c
                    · have hcI : (K0 : Int) < m.c := by omega
                      have He := Lib.hid (up_tf HibT.out HneI.out (hK0 ▸ hc) hr)
                      clear hr hc hK0
                      as_aux_lemma =>
                       go_wp2_with fail
                       go_region
                       go_wp2_with fail
                       go_region
                       generalize hw6 : (World.setCell _ _ _) = w6
                       have hf6 : Fr (fun k => k = gs) wr w6 := by
                         rw [← hw6]
                         exact Fr.setCell (F := fun k => k = gs) (Fr.refl _ wr) (p := ⟨gs, os + a * 4 + 2, none⟩) (.inl rfl) _
                       have hE6 : RefAt w6 ρ' g ((eUpTo T a b m.l).putL b a { (eUpTo T a b m.l).ln b a with conf := m.c }) (.slice (some ⟨gu, ou, none⟩) S.acc.length cu) vS (.slice (some ⟨gv, ov, none⟩) S.acc.length cv) (.slice (some ⟨gp, op, none⟩) S.acc.length cp) vr vT vM1 mz1 := by
                         rw [← hw6]
                         exact HEi.out.setPair (by rw [Hlen.out]; exact Hhb.out) (by rw [Hlen.out]; exact Hha.out) (Ne.symm Hne.out) (by rw [Hlen.out]; exact Hvr'.out) Hbr2.out (l := { (eUpTo T a b m.l).ln b a with conf := m.c }) rfl rfl (j := 2) (by decide) rfl
                       obtain ⟨d1, d2, d3, d4⟩ := Facts2.out w6 hf6
                       rw [hr'] at d4
                       have Hf6 := Lib.hid hf6
                       have HE6 := Lib.hid hE6
                       clear hf6 hE6 hw6
                       go_wp2_with fail
                       go_ret
                       have hfin := Fin.out _ _ (((Hf6.out.mono (G := fun k => k = gs ∨ k = gv) (fun _ _ e => .inl e)).drew).drew) He.out.symm (HE6.out.fr (((Fr.refl None' _).drew).drew) (fun _ _ h => h))
                       rw [HTT.out] at hfin
                       exact ⟨rfl, hfin⟩
                    · have hcI : ¬ (K0 : Int) < m.c := by omega
                      have He := Lib.hid (up_ff HibT.out HneI.out (hK0 ▸ hc) hr)
                      clear hr hc hK0
                      as_aux_lemma =>
                       go_wp2_with fail
                       go_region
                       obtain ⟨d1, d2, d3, d4⟩ := Facts2.out wr.drew (Fr.refl _ _).drew
                       rw [hr'] at d4
                       go_wp2_with fail
                       go_ret
                       have hfin := Fin.out _ _ ((Fr.refl (fun k => k = gs ∨ k = gv) wr).drew) He.out.symm (HEi.out.fr ((Fr.refl None' _).drew) (fun _ _ h => h))
                       rw [HTT.out] at hfin
                       exact ⟨rfl, hfin⟩
end Go.Proofs.Ytdjaofkbgkifkaa

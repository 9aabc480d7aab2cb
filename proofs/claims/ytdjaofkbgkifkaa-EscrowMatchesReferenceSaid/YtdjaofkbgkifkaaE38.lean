/- The reference of chapter 36: Give, where a unit goes on its way. -/
import Derived.Test.YtdjaofkbgkifkaaE37
set_option linter.unusedVariables false
set_option linter.unusedSimpArgs false
namespace Go.Proofs.Ytdjaofkbgkifkaa
open Go.RowKit

theorem putL_ln_nat {S : ES} {a b : Nat} {l : EL} {x y : Nat} (hxy : ¬ (x = a ∧ y = b)) : (S.putL a b l).ln x y = S.ln x y := ES.putL_other _ _ _ _ _ _ (by
  by_cases e : x = a
  · exact .inr (fun e2 => hxy ⟨e, by omega⟩)
  · exact .inl (by omega))
theorem pcells_other {S : ES} {a b : Nat} {l : EL} {vT vM : Nat → Nat → Value} {t' M' : Value} {y : Nat} (hy : y ≠ b) : pcells (S.putL a b l) (nupd vT a b t') (nupd vM a b M') a y = pcells S vT vM a y := by
  have hxy : ¬ (a = a ∧ y = b) := fun h => hy h.2
  unfold pcells
  rw [putL_ln_nat hxy, nupd_other _ _ _ _ _ _ hxy, nupd_other _ _ _ _ _ _ hxy]
theorem pcells_same {S : ES} {a b : Nat} {l : EL} {vT vM : Nat → Nat → Value} {t' M' : Value} : pcells (S.putL a b l) (nupd vT a b t') (nupd vM a b M') a b = [t', .int .i64 (l.rcv : Int), .int .i64 (l.conf : Int), M'] := by
  unfold pcells
  rw [nupd_same, nupd_same, ES.putL_same]
theorem rgive_end {t : Nat} {w w1 w3 w4 : World} {F : Nat → Prop} {ρ : Nat → RR} {g : Nat} {S : ES} {vU vS vR vP : Value} {vr : Nat → Value} {vT vM : Nat → Nat → Value} {mz : Nat → Nat → List (Value × EM)} {k : Int} {v4 : Value}
    (h : RefAt w1 ρ g S vU vS vR vP vr vT vM mz) (hF : ∀ k, ρ k ≠ .other → F k) (hf1 : Fr F w w1) {a b : Nat} (ha : a < S.acc.length) (hb : b < S.acc.length) (hne : a ≠ b) (hok : LineOK t (S.ln a b) (S.ln b a))
    {gr orr cr : Nat} (hvr : vr a = .slice (some ⟨gr, orr, none⟩) S.acc.length cr) (hbr : rowBlk (vr a) = some gr) (hf3 : Fr None' w1 w3)
    (hr4 : Row w4 1 v4 ((S.ln a b).all.flatMap icell ++ [k].flatMap icell)) (hg4 : w3.grownBy w4 (rowBlk (vT a b))) (hb4 : rowBlk v4 = rowBlk (vT a b) ∨ rowBlk v4 = some w3.heap.size) :
    RPost w F g (.int .i64 0) (S.putL a b { S.ln a b with all := (S.ln a b).all ++ [k] }) (.returned (.int .i64 0)) (w4.setCell ⟨gr, orr + b * 4, none⟩ v4) := by
  obtain ⟨w5, hw5⟩ : ∃ w5, w5 = w4.setCell ⟨gr, orr + b * 4, none⟩ v4 := ⟨_, rfl⟩
  rw [← hw5]
  have hT : ∀ k, rowBlk (vT a b) = some k → ρ k = .tr a b := h.rt a b ha hb
  have hR : ρ gr = .row a := h.rw_ a ha gr hbr
  have hFr : F gr := hF _ (by rw [hR]; simp)
  have s5 : w5.heap.size = w4.heap.size := by rw [hw5, setCell_size]
  have f4 : Fr (fun k => ρ k = .tr a b) w1 w4 := (hf3.mono (fun _ _ h => h.elim)).grown hg4 (fun k hk => .inl (hT k hk))
  have f5 : Fr (fun k => ρ k = .tr a b ∨ k = gr) w1 w5 := by
    rw [hw5]
    exact (f4.mono (fun _ _ h => .inl h)).setCell (p := ⟨gr, orr + b * 4, none⟩) (.inl (.inr rfl)) _
  obtain ⟨ρ', hρ⟩ : ∃ ρ' : Nat → RR, ρ' = fun k => if k < w1.heap.size then ρ k else if k < w5.heap.size then .tr a b else .other := ⟨_, rfl⟩
  have r1 : ∀ k, k < w1.heap.size → ρ' k = ρ k := fun k hk => by rw [hρ]; simp only [if_pos hk]
  have E1 := h.role (ρ' := ρ') (fun k hk _ => r1 k hk)
  have hb4' : ∀ k, rowBlk v4 = some k → ρ' k = .tr a b := by
    intro k hk
    rcases hb4 with e | e
    · rw [e] at hk
      rw [r1 k ((h.tr a b ha hb).lt hk)]; exact hT k hk
    · have h1 := hr4.lt hk
      rw [e] at hk; cases hk
      have h2 := hf3.size
      rw [hρ]
      simp only [if_neg (show ¬ w3.heap.size < w1.heap.size by omega), if_pos (show w3.heap.size < w5.heap.size by rw [s5]; exact h1)]
  have hgr : gr < w1.heap.size := (h.row a ha).lt hbr
  have hlne : ∀ k, rowBlk v4 = some k → k ≠ gr := by
    intro k hk e
    have h1 := hb4' k hk
    rw [e, r1 gr hgr, hR] at h1
    cases h1
  have hrow4 := (h.row a ha).fr f4 (fun k hk e => by rw [h.rw_ a ha k hk] at e; cases e)
  have E2 := E1.putLine (w' := w5) (l := { S.ln a b with all := (S.ln a b).all ++ [k] }) (t' := v4) (M' := vM a b) (z' := mz a b) ha hb hne ?_ ?_ ?_ ?_ ?_ f5.size ?_ hb4' (E1.rm a b ha hb)
  · refine ⟨rfl, ⟨ρ', _, _, _, _, _, _, _, _, E2, fun j hj => ?_⟩, ?_⟩
    · rw [hρ] at hj
      simp only [] at hj
      split at hj
      · exact .inl (hF j hj)
      · split at hj
        · rename_i h1 h2
          have := hf1.size
          exact .inr ⟨by omega, h2⟩
        · exact absurd rfl hj
    · exact hf1.trans f5 (fun i hi e => by
        rcases e with e | e
        · exact hF i (by rw [e]; simp)
        · rw [e]; exact hFr)
  · rw [hvr] at hrow4 ⊢
    rw [hw5]
    have := hrow4.putR (f := pcells S vT vM a) (f' := pcells (S.putL a b { S.ln a b with all := (S.ln a b).all ++ [k] }) (nupd vT a b v4) (nupd vM a b (vM a b)) a) (fun _ => rfl) hb (j := 0) (by decide) (u := v4) (fun y hy => pcells_other hy) (by rw [pcells_same]; rfl)
    rw [Nat.add_zero] at this
    exact this
  · show Row w5 1 v4 (((S.ln a b).all ++ [k]).flatMap icell)
    rw [List.flatMap_append]
    refine hr4.kept (fun k hk => ?_)
    rw [hw5, setCell_other (hlne k hk)]
  · exact (h.ms a b ha hb).fr f5 (fun k hk e => by
      have h1 := h.rm a b ha hb k hk
      rcases e with e | e
      · rw [e] at h1; cases h1
      · rw [e, hR] at h1; cases h1)
  · exact h.mq a b ha hb
  · intro q hq
    have hm := hok.mm q.2 (by rw [← h.mq a b ha hb]; exact List.mem_map.2 ⟨q, hq, rfl⟩)
    rw [EM.tr_append _ _ _ hm.2.2.1]
    exact (h.im a b ha hb q hq).keep f5.size (fun j hj hi => f5.block j hj (fun e => by
      rcases e with e | e
      · rw [e] at hi; cases hi
      · rw [e, hR] at hi; cases hi)) (fun j hj hi => by rw [r1 j hj]; exact hi)
  · intro j hj h1 h2 h3 h4
    rw [r1 j hj] at h1 h2
    exact f5.block j hj (fun e => by
      rcases e with e | e
      · exact h2 e
      · rw [e] at h1; exact h1 hR)
set_option maxHeartbeats 4000000 in
set_option maxRecDepth 100000 in
theorem rgive_do {U : Int} {t : Nat} {w : World} {F : Nat → Prop} {ρ : Nat → RR} {g : Nat} {S : ES} {vU vS vR vP : Value} {vr : Nat → Value} {vT vM : Nat → Nat → Value} {mz : Nat → Nat → List (Value × EM)}
    (h : RefAt w ρ g S vU vS vR vP vr vT vM mz) (hF : ∀ k, ρ k ≠ .other → F k) (hU : U ≤ 1000000000) (hI : Inv U t S) (ht : t ≤ 1000000) {a b : Nat} (ha : a < S.acc.length) (hb : b < S.acc.length) (hne : a ≠ b) (k : Int) (hk : 1 ≤ k) (hu : ¬ (S.ac a).u < k) (hq : ¬ (S.ln a b).conf + 100 ≤ (S.ln a b).all.length) :
    Calls Try.prog 78 #[.pointer (some ⟨g, 0, none⟩), .int .i64 a, .int .i64 b, .int .i64 k] w (RPost w F g (.int .i64 0) ((S.putA a ⟨(S.ac a).u - k, (S.ac a).s, (S.ac a).r⟩).putL a b { S.ln a b with all := (S.ln a b).all ++ [k] })) := by
  obtain ⟨c0, _, _, c3, cf⟩ := h.cells
  have hia : isB S.acc.length a = true := by simp only [isB, decide_eq_true_eq]; omega
  have hib : isB S.acc.length b = true := by simp only [isB, decide_eq_true_eq]; omega
  have hbd := hI.bound hia
  have hx := ES.ac_get hia
  rw [Int.toNat_natCast] at hx
  obtain ⟨gu, ou, cu, rfl, bu, u0, fu⟩ := arr_get ucell_len h.un hx rfl
  obtain ⟨gp, op, cp, gr, orr, cr, A, cap, AM, capM, rfl, bp, p0, hvr, hbr, hv, hvM, q0, q1, q2, q3, qf⟩ := h.pairAt ha hb
  have hok := hI.sh.ok (nat_pair ha hb hne)
  have Ha := is_at c0 a
  have Hb := is_at c0 b
  rw [hia] at Ha
  rw [hib] at Hb
  have hab : ((a : Int) == (b : Int)) = false := by rw [beq_eq_false_iff_ne]; omega
  have hk0 : ¬ k < 1 := by omega
  have i0 : ¬ (a : Int) < 0 := by omega
  have i1 : (a : Int) < S.acc.length := by omega
  have j0 : ¬ (b : Int) < 0 := by omega
  have j1 : (b : Int) < S.acc.length := by omega
  have hK := hok.tm
  have hcr := hok.cr
  have hra := hok.ra
  have hw : wrap64 (((S.ln a b).all.length : Int) - ((S.ln a b).conf : Int)) = ((S.ln a b).all.length : Int) - ((S.ln a b).conf : Int) := w64 (by omega) (by omega)
  have hge : ¬ (100 : Int) ≤ ((S.ln a b).all.length : Int) - ((S.ln a b).conf : Int) := by omega
  have hwu : IntKind.i64.wrap ((S.ac a).u - k) = (S.ac a).u - k := by rw [IntKind.wrap_i64]; omega
  -- the world behind the box and the account's store
  have ru := h.ru gu bu
  have rp := h.ro gp bp
  have rrow := h.rw_ a ha gr hbr
  have n1 : g ≠ gu := fun e => by have := h.rg; rw [e, ru] at this; cases this
  have n2 : gp ≠ gu := fun e => by rw [e, ru] at rp; cases rp
  have n3 : gr ≠ gu := fun e => by rw [e, ru] at rrow; cases rrow
  have hFu := hF gu (by rw [ru]; simp)
  obtain ⟨bx, hbx⟩ : ∃ bx : Obj, bx = .cells #[.slice A (S.ln a b).all.length cap, .int .i64 (S.ln a b).rcv, .int .i64 (S.ln a b).conf, .slice AM (S.ln a b).ms.length capM] 149 := ⟨_, rfl⟩
  obtain ⟨wB, hwB⟩ : ∃ wB, wB = w.alloc bx := ⟨_, rfl⟩
  have fB : Fr None' w wB := by rw [hwB]; exact (Fr.refl None' w).alloc bx
  obtain ⟨w1, hw1⟩ : ∃ w1, w1 = (wB.setCell ⟨gu, ou + a, none⟩ (.int .i64 ((S.ac a).u - k))).drew := ⟨_, rfl⟩
  have f1 : Fr F w w1 := by rw [hw1]; exact ((fB.mono (fun _ _ h => h.elim)).setCell (p := ⟨gu, ou + a, none⟩) (.inl hFu) _).drew
  have hA := h.fr fB (fun _ _ h => h)
  have E1 : RefAt w1 ρ g (S.putA a ⟨(S.ac a).u - k, (S.ac a).s, (S.ac a).r⟩) (.slice (some ⟨gu, ou, none⟩) S.acc.length cu) vS vR (.slice (some ⟨gp, op, none⟩) S.acc.length cp) vr vT vM mz := by
    have hne' : ∀ k, ρ k ≠ .un → k ≠ gu := fun k hk e => hk (by rw [e]; exact ru)
    have hoth : ∀ j, j ≠ gu → w1.heap[j]? = wB.heap[j]? := fun j hj => by rw [hw1]; exact setCell_other hj
    refine hA.putArr rfl (by simp) ?_ ?_ ?_ (by rw [hw1]; show _ ≤ (World.setCell _ _ _).heap.size; rw [setCell_size]; exact Nat.le_refl _) (fun j _ h1 _ _ _ => hoth j (hne' j h1))
    · have := flat_putA ucell_len (x' := ⟨(S.ac a).u - k, (S.ac a).s, (S.ac a).r⟩) hx rfl hA.un
      rw [hw1]
      simp only [ES.putA, Int.toNat_natCast]
      exact this
    · simp only [ES.putA, Int.toNat_natCast]
      rw [flat_same (f := scell) (x' := ⟨(S.ac a).u - k, (S.ac a).s, (S.ac a).r⟩) hx rfl]
      exact hA.us.kept (fun j hj => hoth j (hne' j (by rw [h.rs j hj]; simp)))
    · simp only [ES.putA, Int.toNat_natCast]
      rw [flat_same (f := rcell) (x' := ⟨(S.ac a).u - k, (S.ac a).s, (S.ac a).r⟩) hx rfl]
      exact hA.re.kept (fun j hj => hoth j (hne' j (by rw [h.rr j hj]; simp)))
  have ha1 : a < (S.putA a ⟨(S.ac a).u - k, (S.ac a).s, (S.ac a).r⟩).acc.length := by rw [ES.putA_len]; exact ha
  have hb1 : b < (S.putA a ⟨(S.ac a).u - k, (S.ac a).s, (S.ac a).r⟩).acc.length := by rw [ES.putA_len]; exact hb
  obtain ⟨d0, d1, d2, d3, df⟩ := E1.cells
  have gl : g < w.heap.size := (Array.getElem?_eq_some_iff.1 h.obj).1
  have gpl : gp < w.heap.size := h.out.lt bp
  have grl : gr < w.heap.size := (h.row a ha).lt hbr
  have gul : gu < w.heap.size := h.un.lt bu
  have k1 : ∀ j, j < w.heap.size → j ≠ gu → w1.heap[j]? = w.heap[j]? := fun j hj hn => by
    rw [hw1]
    exact (setCell_other (w := wB) (p := ⟨gu, ou + a, none⟩) (u := .int .i64 ((S.ac a).u - k)) hn).trans (fB.block j hj (fun h => h))
  have p1 : w1.cell? ⟨gp, op + a, none⟩ = some (.slice (some ⟨gr, orr, none⟩) S.acc.length cr) := (World.cell?_of_block (k1 gp gpl n2)).trans p0
  have kb : w1.heap[w.heap.size]? = some bx := by
    rw [hw1]
    exact (setCell_other (w := wB) (p := ⟨gu, ou + a, none⟩) (u := .int .i64 ((S.ac a).u - k)) (k := w.heap.size) (by show w.heap.size ≠ gu; omega)).trans (by rw [hwB]; exact heap_alloc_new w bx)
  have kb' := kb
  rw [hbx] at kb'
  obtain ⟨x0, x1, x2, x3, _⟩ := four_cells kb'
  have s1 : w1.heap.size = w.heap.size + 1 := by
    rw [hw1]; show (World.setCell _ _ _).heap.size = _
    rw [setCell_size, hwB]; exact Array.size_push _
  obtain ⟨b0, _, _, b3, _⟩ := hA.cells
  have bu0 : wB.cell? ⟨gu, ou + a, none⟩ = some (.int .i64 (S.ac a).u) := (World.cell?_of_block (fB.block gu gul (fun h => h))).trans u0
  have bfu : ∀ o, wB.frozen? ⟨gu, o, none⟩ = false := fun o => hA.un.free bu o
  -- the world of the append
  obtain ⟨w3, hw3⟩ : ∃ w3, w3 = (w1.alloc (.cells #[.int .i64 k] 3)).drew := ⟨_, rfl⟩
  have f3 : Fr None' w1 w3 := by rw [hw3]; exact ((Fr.refl None' w1).alloc _).drew
  have hrow3 := (E1.tr a b ha1 hb1).fr f3 (fun _ _ h => h)
  rw [hv] at hrow3
  simp only [ES.putA_ln] at hrow3
  have hrd3 : ReadsAs w3 (some ⟨w1.heap.size, 0, none⟩) ([k].flatMap icell) := by
    rw [hw3]
    exact reads_blk (cs := [.int .i64 k]) (show (w1.alloc (.cells #[.int .i64 k] 3)).heap[w1.heap.size]? = _ from heap_alloc_new _ _)
  have hlen : ((S.ln a b).all.flatMap icell).length + ([k].flatMap icell).length ≤ 9007199254740992 := by
    rw [flat_length _ 1 icell_len, flat_length _ 1 icell_len, List.length_singleton]; omega
  have hby : ((((S.ln a b).all.flatMap icell).length + ([k].flatMap icell).length) / 1) * 8 ≤ 140737488355328 := by
    rw [flat_length _ 1 icell_len, flat_length _ 1 icell_len, List.length_singleton]; omega
  have hT := E1.rt a b ha1 hb1
  have k4 : ∀ w4 : World, w3.grownBy w4 (rowBlk (.slice A (S.ln a b).all.length cap)) → w4.cell? ⟨g, 3, none⟩ = some (.slice (some ⟨gp, op, none⟩) S.acc.length cp) ∧ w4.cell? ⟨gp, op + a, none⟩ = some (.slice (some ⟨gr, orr, none⟩) S.acc.length cr) ∧ (∀ o, w4.frozen? ⟨gr, o, none⟩ = false) ∧ (∃ u, w4.cell? ⟨gr, orr + b * 4, none⟩ = some u) := by
    intro w4 hg4
    rw [← hv] at hg4
    have key : ∀ j, j < w.heap.size → j ≠ gu → (∀ x y, ρ j ≠ .tr x y) → w4.heap[j]? = w.heap[j]? := fun j hj hn ht' =>
      ((hg4.block j (by have := f3.size; omega) (fun e => ht' a b (hT j e.symm))).trans (f3.block j (by omega) (fun h => h))).trans (k1 j hj hn)
    have kg := key g gl n1 (fun x y => by rw [h.rg]; simp)
    have kp := key gp gpl n2 (fun x y => by rw [rp]; simp)
    have kr := key gr grl n3 (fun x y => by rw [rrow]; simp)
    refine ⟨(World.cell?_of_block kg).trans c3, (World.cell?_of_block kp).trans p0, fun o => ?_, ⟨_, (World.cell?_of_block kr).trans q0⟩⟩
    have := qf o
    unfold World.frozen? at this ⊢
    rw [kr]; exact this
  have k3 : w3.cell? ⟨g, 3, none⟩ = some (.slice (some ⟨gp, op, none⟩) S.acc.length cp) ∧ w3.cell? ⟨gp, op + a, none⟩ = some (.slice (some ⟨gr, orr, none⟩) S.acc.length cr) ∧ w3.cell? ⟨w.heap.size, 0, none⟩ = some (.slice A (S.ln a b).all.length cap) := by
    refine ⟨?_, ?_, (World.cell?_of_block (f3.block w.heap.size (by omega) (fun h => h))).trans x0⟩
    · exact (World.cell?_of_block (f3.block g (by omega) (fun h => h))).trans d3
    · exact (World.cell?_of_block (f3.block gp (by omega) (fun h => h))).trans p1
  have Ha := Lib.hid Ha
  have Hb := Lib.hid Hb
  have HE1 := Lib.hid E1
  have HF := Lib.hid hF
  have Hf1 := Lib.hid f1
  have Hf3 := Lib.hid f3
  have Hr3 := Lib.hid hrow3
  have Hrd3 := Lib.hid hrd3
  have Hone := Lib.hid (icells_one [k])
  have Hlen := Lib.hid hlen
  have Hby := Lib.hid hby
  have Hok := Lib.hid hok
  have Hw1 := Lib.hid hw1
  have Hw3 := Lib.hid hw3
  have K4 := Lib.hid k4
  have K3 := Lib.hid k3
  have Ha1 := Lib.hid ha1
  have Hb1 := Lib.hid hb1
  have Hne := Lib.hid hne
  have Hvr := Lib.hid hvr
  have Hbr := Lib.hid hbr
  have Hv := Lib.hid hv
  have Hbx := Lib.hid hbx
  have HwB := Lib.hid hwB
  have n1' : ¬ g = gu := n1
  have n2' : ¬ gp = gu := n2
  clear h hF hU hI ht ha hb hne hk hq hia hib hbd hx hok hK hcr hra f1 hA E1 ha1 hb1 k4 k3 f3 hrow3 hrd3 hlen hby hT kb kb' k1 hw1 hw3 hv hvM hvr hbr ru rp rrow n1 n2 n3 hbx bu bp qf hwB fB
  go_enter Try.func78, Try.ntmps78
  go_wp2_with fail
  refine Ha.out.mono ?_
  rintro e w' ⟨rfl, rfl⟩
  go_wp2_with fail
  refine Hb.out.mono ?_
  rintro e w' ⟨rfl, rfl⟩
  go_wp2_with fail
  obtain rfl := Hbx.out
  rw [← HwB.out]
  clear c0 c3 cf u0 fu p0 q0 q1 q2 q3
  go_still_tail 14, (by kernel_rfl)
  change wpList _ _ _ _ _ wB.drew
  go_wp2_with fail
  rw [← Hw1.out]
  obtain ⟨y3, yp, yx⟩ := K3.out
  obtain rfl := Hw3.out
  clear s1 gl gpl grl gul
  go_region_law (refine step_append_row ((w1.alloc (.cells #[.int .i64 k] 3)).drew) rfl (.tmp 79) (.tmp 81) 74 3 rfl (.int .i64 0) 1 8 Try.underlying74 info3 rfl (by decide) (.slice A (S.ln a b).all.length cap) ((S.ln a b).all.flatMap icell) rfl Hr3.out (some ⟨w1.heap.size, 0, none⟩) 1 1 ([k].flatMap icell) rfl rfl Hrd3.out Hone.out Hlen.out Hby.out ?_
                 intro v4 w4 hr4 hg4 hb4
                 obtain ⟨A4, n4, cap4, rfl, hn4⟩ := hr4.form
                 obtain ⟨z3, zp, zf, zu, zq⟩ := K4.out w4 hg4
                 have Hr4 := Lib.hid hr4
                 have Hg4 := Lib.hid hg4
                 have Hb4 := Lib.hid hb4
                 clear hr4 hg4 hb4 hn4)
  all_goals (
    go_wp2_with fail
    go_ret
    exact rgive_end (S := S.putA a ⟨(S.ac a).u - k, (S.ac a).s, (S.ac a).r⟩) HE1.out HF.out Hf1.out Ha1.out Hb1.out Hne.out Hok.out (by rw [ES.putA_len]; exact Hvr.out) Hbr.out Hf3.out Hr4.out (by rw [Hv.out]; exact Hg4.out) (by rw [Hv.out]; exact Hb4.out))
end Go.Proofs.Ytdjaofkbgkifkaa

/- NetLines: the walk. Printed by wip/tools/genlin.py. -/
import Derived.Test.YtdgcimjpggjnjaaNlin
import Derived.Test.YtdgcimjpggjnjaaRdl
import Derived.Test.YtdgcimjpggjnjaaNtext
set_option linter.unusedVariables false
set_option linter.unusedSimpArgs false
namespace Go.Proofs.Ytdgcimjpggjnjaa
open Go.RowKit

def LinRel (w1 : World) (B : Nat) (g g2 : Nat) (a b : Int) (cut : Bool) (wr : World) : Prop :=
  ∃ F G S T, NetS wr F g S ∧ NetS wr G g2 T ∧ QB S ∧ QB T ∧ Lin S T a b cut ∧ (∀ k, F k → B ≤ k ∧ k < wr.heap.size) ∧ (∀ k, G k → B ≤ k ∧ k < wr.heap.size) ∧ (∀ k, F k → ¬ G k) ∧ B ≤ wr.heap.size ∧ Fr None' w1 wr
theorem LinRel.fr0 {w1 w w' : World} {B g g2 : Nat} {a b : Int} {cut : Bool} (h : LinRel w1 B g g2 a b cut w) (hf : Fr None' w w') : LinRel w1 B g g2 a b cut w' := by
  obtain ⟨F, G, S, T, h1, h2, h3, h4, h5, h6, h7, h8, h9, h10⟩ := h
  exact ⟨F, G, S, T, h1.fr hf (fun _ _ h => h), h2.fr hf (fun _ _ h => h), h3, h4, h5, fun k hk => ⟨(h6 k hk).1, Nat.lt_of_lt_of_le (h6 k hk).2 hf.size⟩, fun k hk => ⟨(h7 k hk).1, Nat.lt_of_lt_of_le (h7 k hk).2 hf.size⟩, h8, Nat.le_trans h9 hf.size, h10.trans0 hf⟩
/-- A block of one's own is set. -/
theorem set3_len {w : World} {g : Nat} {u0 u1 u2 : Value} {T : TypeId} (h : w.heap[g]? = some (.cells #[u0, u1, u2] T)) (v0 v1 v2 : Value) :
    (((w.setCell ⟨g, 0, none⟩ v0).setCell ⟨g, 1, none⟩ v1).setCell ⟨g, 2, none⟩ v2).heap.size = w.heap.size := by
  simp [World.setCell]

theorem lin_next {w1 w5 w6 : World} {F' G : Nat → Prop} {g g2 z : Nat} {a b : Int} {S' T' : NS} {cut' : Bool} (hS : NetS w5 F' g S') (hf5 : Fr None' w1 w5) (hT : NetS w6 (Ext G w5.drew w6) g2 T') (hf6 : Fr G w5.drew w6)
    (hQS : QB S') (hQT : QB T') (hlin : Lin S' T' a b cut') (hF : ∀ j, F' j → w1.heap.size ≤ j ∧ j < z ∧ ¬ G j) (hG : ∀ j, G j → w1.heap.size ≤ j ∧ j < z) (hz : w5.heap.size = z + 1) (hB : w1.heap.size ≤ z) : LinRel w1 w1.heap.size g g2 a b cut' w6 := by
  have hd : w5.drew.heap.size = w5.heap.size := rfl
  have h6 : w5.heap.size ≤ w6.heap.size := by have := hf6.size; omega
  refine ⟨F', Ext G w5.drew w6, S', T', (hS.fr (Fr.drew (Fr.refl None' w5)) (fun _ _ h => h)).fr hf6 (fun j hj => (hF j hj).2.2), hT, hQS, hQT, hlin, fun j hj => ⟨(hF j hj).1, by have := (hF j hj).2.1; omega⟩, ?_, ?_, by omega, ?_⟩
  · intro j hj
    rcases hj with hj | hj
    · have := hG j hj; exact ⟨this.1, by omega⟩
    · exact ⟨by omega, hj.2⟩
  · intro j hj he
    rcases he with he | he
    · exact (hF j hj).2.2 he
    · have := (hF j hj).2.1; omega
  · exact hf5.drew.trans hf6 (fun i hi h => by have := (hG i h).1; omega)
theorem lin_same {w1 w5 : World} {F' G : Nat → Prop} {g g2 z : Nat} {a b : Int} {S' T' : NS} {cut' : Bool} (hS : NetS w5 F' g S') (hf5 : Fr None' w1 w5) (hT : NetS w5 G g2 T')
    (hQS : QB S') (hQT : QB T') (hlin : Lin S' T' a b cut') (hF : ∀ j, F' j → w1.heap.size ≤ j ∧ j < z ∧ ¬ G j) (hG : ∀ j, G j → w1.heap.size ≤ j ∧ j < z) (hz : w5.heap.size = z + 1) (hB : w1.heap.size ≤ z) : LinRel w1 w1.heap.size g g2 a b cut' w5 :=
  ⟨F', G, S', T', hS, hT, hQS, hQT, hlin, fun j hj => ⟨(hF j hj).1, by have := (hF j hj).2.1; omega⟩, fun j hj => ⟨(hG j hj).1, by have := (hG j hj).2; omega⟩, fun j hj => (hF j hj).2.2, by omega, hf5⟩
theorem wait_len {S : NS} (h : QB S) (a b : Int) : (nWait S a b).length ≤ 9007199254740992 := by
  unfold nWait waitL
  have := h a b
  split
  · omega
  · simp
theorem LinRel.dead {w1 w : World} {B g g2 : Nat} {a b : Int} (h : LinRel w1 B g g2 a b true w) :
    (Calls Try.prog 14 #[.pointer (some ⟨g, 0, none⟩), .int .i64 a, .int .i64 b] w fun e w' => ∃ A c, e = .returned (.slice A 0 c) ∧ LinRel w1 B g g2 a b true w') ∧
    (Calls Try.prog 14 #[.pointer (some ⟨g, 0, none⟩), .int .i64 b, .int .i64 a] w fun e w' => ∃ A c, e = .returned (.slice A 0 c) ∧ LinRel w1 B g g2 a b true w') := by
  obtain ⟨F, G, S, T, hS, hT, hQS, hQT, hlin, hr⟩ := id h
  have hd := hlin.dead
  refine ⟨(s_wait hS hQS a b).mono ?_, (s_wait hS hQS b a).mono ?_⟩
  · rintro e w' ⟨v, he, hr, _, hf⟩
    rw [hd.1] at hr
    obtain ⟨A, n, c, rfl, hn⟩ := hr.form
    obtain rfl : n = 0 := by simp [strs] at hn; omega
    exact ⟨A, c, he, h.fr0 hf⟩
  · rintro e w' ⟨v, he, hr, _, hf⟩
    rw [hd.2] at hr
    obtain ⟨A, n, c, rfl, hn⟩ := hr.form
    obtain rfl : n = 0 := by simp [strs] at hn; omega
    exact ⟨A, c, he, h.fr0 hf⟩

set_option maxRecDepth 100000 in
set_option maxHeartbeats 8000000 in
theorem netLines_any {l : List Stp} (nodes a b : Int) (vl : Value) (w : World) (hl : RdP w vl l) (hm : ∀ x ∈ l, x.text.size ≤ 9223372036854775807) (hN1 : 1 ≤ nodes) (hN2 : nodes ≤ 8) (hfew : fewB l = true) (hab : a ≠ b) :
    Calls Try.prog 8 #[.int .i64 nodes, vl, .int .i64 a, .int .i64 b] w fun e w' => e = .returned (.bool true) ∧ Fr None' w w' := by
  obtain ⟨A, n, cap, rfl, hn, hln, hA⟩ := id hl
  have Hm := Lib.hid hm
  have Hl := Lib.hid hl
  have Hfew := Lib.hid hfew
  have Hab := Lib.hid hab
  have habB : (a == b) = false := by simpa using hab
  clear hm hl hA hfew hab
  have h150 : l.length ≤ 150 := by have := Hfew.out; rw [fewB, decide_eq_true_eq] at this; exact this.1
  have hn150 : n ≤ 150 := by omega
  have Hn := Lib.hid hn
  clear hn
  go_enter Try.func8, Try.ntmps8
  go_wp2_with fail
  refine (head_any w).mono ?_
  rintro e w1 ⟨rfl, hf1⟩
  have Hf1 := Lib.hid hf1
  clear hf1
  go_wp2_with fail
  refine (s_new nodes w1 hN1 hN2).mono ?_
  rintro e w2 ⟨g, rfl, hn2, hf2⟩
  have hb2 : w1.heap.size ≤ w2.heap.size := hf2.size
  have Hn2 : Hid (NetS w2 (Own w1.heap.size w2) g (NS.new nodes)) := Lib.hid (hn2.mono (fun k hk => by rcases hk with hk | hk; exact hk.elim; exact hk))
  have Hf2 := Lib.hid hf2
  clear hn2 hf2
  go_wp2_with fail
  refine (s_new nodes w2 hN1 hN2).mono ?_
  rintro e w3 ⟨g2, rfl, hn3, hf3⟩
  have hb3 : w2.heap.size ≤ w3.heap.size := hf3.size
  have Hn3 : Hid (NetS w3 (Own w2.heap.size w3) g2 (NS.new nodes)) := Lib.hid (hn3.mono (fun k hk => by rcases hk with hk | hk; exact hk.elim; exact hk))
  have Hn2' := Lib.hid (Hn2.out.fr hf3 (fun _ _ h => h))
  have Hf3 := Lib.hid (Hf2.out.trans0 hf3)
  clear hn3 hf3 Hn2 Hf2
  go_wp2_with fail
  refine (few_any (Hl.out.fr0 (Hf1.out.trans0 Hf3.out)) Hm.out).mono ?_
  rw [Hfew.out]
  rintro e w4 ⟨rfl, rfl⟩
  go_wp2_with fail
  go_loopw [14, 15] (fun cv i wr => ∃ (k : Nat) (cut : Bool), k ≤ n ∧ i = .int .i64 k ∧ cv = .bool cut ∧ LinRel w1 w1.heap.size g g2 a b cut wr) (fun _ i _ => n - (intOf i).toNat)
  case atStart => exact ⟨0, false, Nat.zero_le _, rfl, rfl, _, _, _, _, Hn2'.out, Hn3.out, QB.new _, QB.new _, Lin.new _ _ _, fun k hk => ⟨hk.1, Nat.lt_of_lt_of_le hk.2 hb3⟩, fun k hk => ⟨Nat.le_trans hb2 hk.1, hk.2⟩, fun k hk h => absurd hk.2 (by have := h.1; omega), by omega, Hf3.out⟩
  case round =>
    obtain ⟨k, cut, hk, rfl, rfl, hr⟩ := hrel
    obtain ⟨F, G, S, T, hS, hT, hQS, hQT, hlin, hF, hG, hFG, hB, hfr⟩ := hr
    have HS := Lib.hid hS
    have HT := Lib.hid hT
    have HQS := Lib.hid hQS
    have HQT := Lib.hid hQT
    have Hlin := Lib.hid hlin
    have HF := Lib.hid hF
    have HG := Lib.hid hG
    have HFG := Lib.hid hFG
    have Hfr := Lib.hid hfr
    clear hS hT hQS hQT hlin hF hG hFG hfr
    by_cases hlt : k < n
    · obtain ⟨x, hx⟩ : ∃ x, l[k]? = some x := ⟨_, List.getElem?_eq_getElem (by rw [← Hn.out]; exact hlt)⟩
      obtain ⟨gl, off, rfl, hgl⟩ : ∃ gl off, A = some ⟨gl, off, none⟩ ∧ gl < w.heap.size := by
        obtain ⟨_, _, _, he, _, _, h0⟩ := Hl.out
        cases he
        obtain ⟨gl, off, h, hc⟩ := h0 (by omega)
        exact ⟨gl, off, h, World.block_lt_of_cell? _ _ (hc k x hx 0 _ rfl)⟩
      have hlr := Hl.out.fr0 (Hf1.out.trans0 Hfr.out)
      obtain ⟨c0, c1, c2, c3, c4, c5⟩ := RdP.get hlr hx
      have hxm : x.text.size ≤ 9223372036854775807 := Hm.out x (List.mem_of_getElem? hx)
      have hgl1 : gl < w1.heap.size := Nat.lt_of_lt_of_le hgl Hf1.out.size
      have Hx := Lib.hid hx
      have Hlr := Lib.hid hlr
      have Hgl1 := Lib.hid hgl1
      have hki : (k : Int) < (n : Int) := by omega
      have hk0 : (0 : Int) ≤ (k : Int) := by omega
      clear hx hlr hgl hgl1
      have hdo := do_any HS.out (fun j hj h => absurd (HF.out j h).2 (by omega)) HQS.out x hxm
      rw [Stp.val] at hdo
      obtain ⟨r, S', hrs⟩ : ∃ r S', nDo S x = (r, S') := ⟨_, _, rfl⟩
      have hQS' := HQS.out.do x
      have hoth := Hlin.out.other x
      have hon := Hlin.out.on Hab.out x
      rw [hrs] at hdo hQS' hoth hon
      simp only at hdo hQS' hoth hon
      rw [Rst.val] at hdo
      have Hdo := Lib.hid hdo
      have HQS' := Lib.hid hQS'
      have Hoth := Lib.hid hoth
      have Hon := Lib.hid hon
      clear hdo hQS' hoth hon hrs
      obtain ⟨y0, y1, y2⟩ := r
      go_wp2_with fail
      refine Hdo.out.mono ?_
      rintro e w4 ⟨rfl, hn4, hf4⟩
      have Hn4 := Lib.hid hn4
      have Hf4 := Lib.hid hf4
      have hf14 : Fr None' w1 w4 := Hfr.out.trans hf4 (fun i hi h => by have := (HF.out i h).1; omega)
      have hT4 := HT.out.fr hf4 (fun j hj h => HFG.out j h hj)
      clear hn4 hf4
      obtain ⟨d0, d1, d2, d3, d4, d5⟩ := RdP.get (Hl.out.fr0 (Hf1.out.trans0 hf14)) Hx.out
      obtain ⟨p0, p1, p2, p3, p4, p5⟩ := RdP.get (Hl.out.fr0 ((Hf1.out.trans0 hf14).alloc (.cells #[.int .i64 y0, .string y1, .bool y2] 42))) Hx.out
      obtain ⟨r0, r1, r2, rz⟩ := three_cells (heap_alloc_new w4 (.cells #[.int .i64 y0, .string y1, .bool y2] 42))
      have HS5 : Hid (NetS (w4.alloc (.cells #[.int .i64 y0, .string y1, .bool y2] 42)) (Ext F wr w4) g S') := Lib.hid (Hn4.out.fr ((Fr.refl None' w4).alloc _) (fun _ _ h => h))
      have HT5 : Hid (NetS (w4.alloc (.cells #[.int .i64 y0, .string y1, .bool y2] 42)) G g2 T) := Lib.hid (hT4.fr ((Fr.refl None' w4).alloc _) (fun _ _ h => h))
      have Hf5 : Hid (Fr None' w1 (w4.alloc (.cells #[.int .i64 y0, .string y1, .bool y2] 42))) := Lib.hid (hf14.alloc _)
      have hs4 : wr.heap.size ≤ w4.heap.size := Hf4.out.size
      have hs5 : (w4.alloc (.cells #[.int .i64 y0, .string y1, .bool y2] 42)).heap.size = w4.heap.size + 1 := by simp
      have HF4 : Hid (∀ j, Ext F wr w4 j → w1.heap.size ≤ j ∧ j < w4.heap.size ∧ ¬ G j) := Lib.hid (fun j hj => by
        rcases hj with hj | hj
        · have := HF.out j hj; exact ⟨this.1, by omega, HFG.out j hj⟩
        · exact ⟨by omega, by omega, fun h => absurd (HG.out j h).2 (by omega)⟩)
      have HG4 : Hid (∀ j, G j → w1.heap.size ≤ j ∧ j < w4.heap.size) := Lib.hid (fun j hj => by have := HG.out j hj; exact ⟨this.1, by omega⟩)
      clear hf14 hT4
      cases ha : (x.a == a) with
      | true =>
        have hab' : (x.a == b) = false := by simp at ha; rw [ha]; exact habB
        cases hb : (x.b == b) with
        | true =>
          have hox : onB x a b = true := by simp [onB, ha, hb]
          obtain ⟨he, hlin'⟩ := Hon.out hox
          have Hlin' := Lib.hid hlin'
          have He := Lib.hid he
          clear hlin' he
          go_wp2_with fail
          generalize hw5 : w4.alloc (.cells #[.int .i64 y0, .string y1, .bool y2] 42) = w5 at *
          clear hw5
          have hdo2 := do_any (HT5.out.fr (Fr.drew (Fr.refl None' w5)) (fun _ _ h => h)) (fun j hj h => absurd (HG4.out j h).2 (by have : w5.drew.heap.size = w5.heap.size := rfl; omega)) HQT.out x hxm
          rw [Stp.val, He.out, Rst.val] at hdo2
          have Hdo2 := Lib.hid hdo2
          clear hdo2
          have hlow : ¬ G gl := fun h => by have := (HG4.out _ h).1; have := Hgl1.out; omega
          have hpG : ¬ G w4.heap.size := fun h => by have := (HG4.out _ h).2; omega
          have hbs := beq_same y1
          go_region_held3 (fun W => W.cell? ⟨gl, off + k * 6, none⟩ = some (.int .i64 x.kind) ∧ W.cell? ⟨gl, off + k * 6 + 1, none⟩ = some (.int .i64 x.a) ∧ W.cell? ⟨gl, off + k * 6 + 2, none⟩ = some (.int .i64 x.b) ∧ W.cell? ⟨gl, off + k * 6 + 3, none⟩ = some (.string x.text) ∧ W.cell? ⟨gl, off + k * 6 + 4, none⟩ = some (.bool x.lost) ∧ W.cell? ⟨gl, off + k * 6 + 5, none⟩ = some (.bool x.again) ∧ W.cell? ⟨w4.heap.size, 0, none⟩ = some (.int .i64 y0) ∧ W.cell? ⟨w4.heap.size, 1, none⟩ = some (.string y1) ∧ W.cell? ⟨w4.heap.size, 2, none⟩ = some (.bool y2))
            (first | exact ⟨p0, p1, p2, p3, p4, p5, r0, r1, r2⟩ | exact ⟨q0, q1, q2, q3, q4, q5, s0, s1, s2⟩)
            (first | (go_at_call 17; refine Hdo2.out.mono ?_
                      rintro e w6 ⟨rfl, hn6, hf6⟩
                      have q0 := hf6.cell (show w5.drew.cell? ⟨gl, off + k * 6, none⟩ = _ from p0) hlow
                      have q1 := hf6.cell (show w5.drew.cell? ⟨gl, off + k * 6 + 1, none⟩ = _ from p1) hlow
                      have q2 := hf6.cell (show w5.drew.cell? ⟨gl, off + k * 6 + 2, none⟩ = _ from p2) hlow
                      have q3 := hf6.cell (show w5.drew.cell? ⟨gl, off + k * 6 + 3, none⟩ = _ from p3) hlow
                      have q4 := hf6.cell (show w5.drew.cell? ⟨gl, off + k * 6 + 4, none⟩ = _ from p4) hlow
                      have q5 := hf6.cell (show w5.drew.cell? ⟨gl, off + k * 6 + 5, none⟩ = _ from p5) hlow
                      have s0 := hf6.cell (show w5.drew.cell? ⟨w4.heap.size, 0, none⟩ = _ from r0) hpG
                      have s1 := hf6.cell (show w5.drew.cell? ⟨w4.heap.size, 1, none⟩ = _ from r1) hpG
                      have s2 := hf6.cell (show w5.drew.cell? ⟨w4.heap.size, 2, none⟩ = _ from r2) hpG
                      have Hn6 := Lib.hid hn6
                      have Hf6 := Lib.hid hf6
                      clear hn6 hf6))
          have hrel6 := lin_next HS5.out Hf5.out Hn6.out Hf6.out HQS'.out (HQT.out.do x) Hlin'.out HF4.out HG4.out hs5 (by omega)
          have Hrel6 := Lib.hid hrel6
          clear hrel6
          cases hk0 : (x.kind == 0) with
          | true =>
            have hk2 : (x.kind == 2) = false := by simp at hk0; simp [hk0]
            cases cut with
            | true =>
              have hcb : cutB true x.kind y0 = true := by simp [cutB, hk0, hk2]
              rw [hcb] at Hrel6
              go_wp2_with fail
              refine Hrel6.out.dead.1.mono ?_
              rintro e w7 ⟨A7, n7, rfl, hr7⟩
              have Hr7 := Lib.hid hr7
              clear hr7
              go_wp2_with fail
              refine Hr7.out.dead.2.mono ?_
              rintro e w8 ⟨A8, n8, rfl, hr8⟩
              have Hr8 := Lib.hid hr8
              clear hr8
              go_wp2_with fail
              all_goals exact ⟨⟨k + 1, _, by omega, by go_num, rfl, Hr8.out⟩, by simp [intOf]; omega⟩
            | false =>
              have hcb : cutB false x.kind y0 = false := by simp [cutB, hk0, hk2]
              rw [hcb] at Hrel6
              go_wp2_with fail
              all_goals exact ⟨⟨k + 1, _, by omega, by go_num, rfl, Hrel6.out⟩, by simp [intOf]; omega⟩
          | false =>
            cases hk1 : (x.kind == 1) with
            | true =>
              have hk2 : (x.kind == 2) = false := by simp at hk1; simp [hk1]
              cases cut with
              | true =>
                have hcb : cutB true x.kind y0 = true := by simp [cutB, hk0, hk1, hk2]
                rw [hcb] at Hrel6
                go_wp2_with fail
                refine Hrel6.out.dead.1.mono ?_
                rintro e w7 ⟨A7, n7, rfl, hr7⟩
                have Hr7 := Lib.hid hr7
                clear hr7
                go_wp2_with fail
                refine Hr7.out.dead.2.mono ?_
                rintro e w8 ⟨A8, n8, rfl, hr8⟩
                have Hr8 := Lib.hid hr8
                clear hr8
                go_wp2_with fail
                all_goals exact ⟨⟨k + 1, _, by omega, by go_num, rfl, Hr8.out⟩, by simp [intOf]; omega⟩
              | false =>
                have hcb : cutB false x.kind y0 = false := by simp [cutB, hk0, hk1, hk2]
                rw [hcb] at Hrel6
                go_wp2_with fail
                all_goals exact ⟨⟨k + 1, _, by omega, by go_num, rfl, Hrel6.out⟩, by simp [intOf]; omega⟩
            | false =>
              cases hk2 : (x.kind == 2) with
              | true =>
                cases hy : (y0 == 0) with
                | true =>
                  have hy' : (y0 != 0) = false := by rw [bne, hy]; rfl
                  cases cut with
                  | true =>
                    have hcb : cutB true x.kind y0 = true := by simp [cutB, hk0, hk1, hk2, hy]
                    rw [hcb] at Hrel6
                    go_wp2_with fail
                    refine Hrel6.out.dead.1.mono ?_
                    rintro e w7 ⟨A7, n7, rfl, hr7⟩
                    have Hr7 := Lib.hid hr7
                    clear hr7
                    go_wp2_with fail
                    refine Hr7.out.dead.2.mono ?_
                    rintro e w8 ⟨A8, n8, rfl, hr8⟩
                    have Hr8 := Lib.hid hr8
                    clear hr8
                    go_wp2_with fail
                    all_goals exact ⟨⟨k + 1, _, by omega, by go_num, rfl, Hr8.out⟩, by simp [intOf]; omega⟩
                  | false =>
                    have hcb : cutB false x.kind y0 = true := by simp [cutB, hk0, hk1, hk2, hy]
                    rw [hcb] at Hrel6
                    go_wp2_with fail
                    refine Hrel6.out.dead.1.mono ?_
                    rintro e w7 ⟨A7, n7, rfl, hr7⟩
                    have Hr7 := Lib.hid hr7
                    clear hr7
                    go_wp2_with fail
                    refine Hr7.out.dead.2.mono ?_
                    rintro e w8 ⟨A8, n8, rfl, hr8⟩
                    have Hr8 := Lib.hid hr8
                    clear hr8
                    go_wp2_with fail
                    all_goals exact ⟨⟨k + 1, _, by omega, by go_num, rfl, Hr8.out⟩, by simp [intOf]; omega⟩
                | false =>
                  have hy' : (y0 != 0) = true := by rw [bne, hy]; rfl
                  cases cut with
                  | true =>
                    have hcb : cutB true x.kind y0 = true := by simp [cutB, hk0, hk1, hk2, hy]
                    rw [hcb] at Hrel6
                    go_wp2_with fail
                    refine Hrel6.out.dead.1.mono ?_
                    rintro e w7 ⟨A7, n7, rfl, hr7⟩
                    have Hr7 := Lib.hid hr7
                    clear hr7
                    go_wp2_with fail
                    refine Hr7.out.dead.2.mono ?_
                    rintro e w8 ⟨A8, n8, rfl, hr8⟩
                    have Hr8 := Lib.hid hr8
                    clear hr8
                    go_wp2_with fail
                    all_goals exact ⟨⟨k + 1, _, by omega, by go_num, rfl, Hr8.out⟩, by simp [intOf]; omega⟩
                  | false =>
                    have hcb : cutB false x.kind y0 = false := by simp [cutB, hk0, hk1, hk2, hy]
                    rw [hcb] at Hrel6
                    go_wp2_with fail
                    all_goals exact ⟨⟨k + 1, _, by omega, by go_num, rfl, Hrel6.out⟩, by simp [intOf]; omega⟩
              | false =>
                cases hy : (y0 == 0) with
                | true =>
                  have hy' : (y0 != 0) = false := by rw [bne, hy]; rfl
                  cases cut with
                  | true =>
                    have hcb : cutB true x.kind y0 = false := by simp [cutB, hk0, hk1, hk2, hy]
                    rw [hcb] at Hrel6
                    go_wp2_with fail
                    all_goals exact ⟨⟨k + 1, _, by omega, by go_num, rfl, Hrel6.out⟩, by simp [intOf]; omega⟩
                  | false =>
                    have hcb : cutB false x.kind y0 = false := by simp [cutB, hk0, hk1, hk2, hy]
                    rw [hcb] at Hrel6
                    go_wp2_with fail
                    all_goals exact ⟨⟨k + 1, _, by omega, by go_num, rfl, Hrel6.out⟩, by simp [intOf]; omega⟩
                | false =>
                  have hy' : (y0 != 0) = true := by rw [bne, hy]; rfl
                  cases cut with
                  | true =>
                    have hcb : cutB true x.kind y0 = true := by simp [cutB, hk0, hk1, hk2, hy]
                    rw [hcb] at Hrel6
                    go_wp2_with fail
                    refine Hrel6.out.dead.1.mono ?_
                    rintro e w7 ⟨A7, n7, rfl, hr7⟩
                    have Hr7 := Lib.hid hr7
                    clear hr7
                    go_wp2_with fail
                    refine Hr7.out.dead.2.mono ?_
                    rintro e w8 ⟨A8, n8, rfl, hr8⟩
                    have Hr8 := Lib.hid hr8
                    clear hr8
                    go_wp2_with fail
                    all_goals exact ⟨⟨k + 1, _, by omega, by go_num, rfl, Hr8.out⟩, by simp [intOf]; omega⟩
                  | false =>
                    have hcb : cutB false x.kind y0 = false := by simp [cutB, hk0, hk1, hk2, hy]
                    rw [hcb] at Hrel6
                    go_wp2_with fail
                    all_goals exact ⟨⟨k + 1, _, by omega, by go_num, rfl, Hrel6.out⟩, by simp [intOf]; omega⟩
        | false =>
          have hox : onB x a b = false := by simp [onB, ha, hb, hab']
          obtain hlin' := Hoth.out hox
          have hrel5 := lin_same HS5.out Hf5.out HT5.out HQS'.out HQT.out hlin' HF4.out HG4.out hs5 (by omega)
          have Hrel6 := Lib.hid hrel5
          clear hrel5 hlin'
          cases cut with
          | true =>
            go_wp2_with fail
            refine Hrel6.out.dead.1.mono ?_
            rintro e w7 ⟨A7, n7, rfl, hr7⟩
            have Hr7 := Lib.hid hr7
            clear hr7
            go_wp2_with fail
            refine Hr7.out.dead.2.mono ?_
            rintro e w8 ⟨A8, n8, rfl, hr8⟩
            have Hr8 := Lib.hid hr8
            clear hr8
            go_wp2_with fail
            all_goals exact ⟨⟨k + 1, _, by omega, by go_num, rfl, Hr8.out⟩, by simp [intOf]; omega⟩
          | false =>
            go_wp2_with fail
            all_goals exact ⟨⟨k + 1, _, by omega, by go_num, rfl, Hrel6.out⟩, by simp [intOf]; omega⟩
      | false =>
        cases ha' : (x.a == b) with
        | false =>
          have hox : onB x a b = false := by simp [onB, ha, ha']
          obtain hlin' := Hoth.out hox
          have hrel5 := lin_same HS5.out Hf5.out HT5.out HQS'.out HQT.out hlin' HF4.out HG4.out hs5 (by omega)
          have Hrel6 := Lib.hid hrel5
          clear hrel5 hlin'
          cases cut with
          | true =>
            go_wp2_with fail
            refine Hrel6.out.dead.1.mono ?_
            rintro e w7 ⟨A7, n7, rfl, hr7⟩
            have Hr7 := Lib.hid hr7
            clear hr7
            go_wp2_with fail
            refine Hr7.out.dead.2.mono ?_
            rintro e w8 ⟨A8, n8, rfl, hr8⟩
            have Hr8 := Lib.hid hr8
            clear hr8
            go_wp2_with fail
            all_goals exact ⟨⟨k + 1, _, by omega, by go_num, rfl, Hr8.out⟩, by simp [intOf]; omega⟩
          | false =>
            go_wp2_with fail
            all_goals exact ⟨⟨k + 1, _, by omega, by go_num, rfl, Hrel6.out⟩, by simp [intOf]; omega⟩
        | true =>
          cases hb' : (x.b == a) with
          | true =>
            have hox : onB x a b = true := by simp [onB, ha', hb']
            obtain ⟨he, hlin'⟩ := Hon.out hox
            have Hlin' := Lib.hid hlin'
            have He := Lib.hid he
            clear hlin' he
            go_wp2_with fail
            generalize hw5 : w4.alloc (.cells #[.int .i64 y0, .string y1, .bool y2] 42) = w5 at *
            clear hw5
            have hdo2 := do_any (HT5.out.fr (Fr.drew (Fr.refl None' w5)) (fun _ _ h => h)) (fun j hj h => absurd (HG4.out j h).2 (by have : w5.drew.heap.size = w5.heap.size := rfl; omega)) HQT.out x hxm
            rw [Stp.val, He.out, Rst.val] at hdo2
            have Hdo2 := Lib.hid hdo2
            clear hdo2
            have hlow : ¬ G gl := fun h => by have := (HG4.out _ h).1; have := Hgl1.out; omega
            have hpG : ¬ G w4.heap.size := fun h => by have := (HG4.out _ h).2; omega
            have hbs := beq_same y1
            go_region_held3 (fun W => W.cell? ⟨gl, off + k * 6, none⟩ = some (.int .i64 x.kind) ∧ W.cell? ⟨gl, off + k * 6 + 1, none⟩ = some (.int .i64 x.a) ∧ W.cell? ⟨gl, off + k * 6 + 2, none⟩ = some (.int .i64 x.b) ∧ W.cell? ⟨gl, off + k * 6 + 3, none⟩ = some (.string x.text) ∧ W.cell? ⟨gl, off + k * 6 + 4, none⟩ = some (.bool x.lost) ∧ W.cell? ⟨gl, off + k * 6 + 5, none⟩ = some (.bool x.again) ∧ W.cell? ⟨w4.heap.size, 0, none⟩ = some (.int .i64 y0) ∧ W.cell? ⟨w4.heap.size, 1, none⟩ = some (.string y1) ∧ W.cell? ⟨w4.heap.size, 2, none⟩ = some (.bool y2))
              (first | exact ⟨p0, p1, p2, p3, p4, p5, r0, r1, r2⟩ | exact ⟨q0, q1, q2, q3, q4, q5, s0, s1, s2⟩)
              (first | (go_at_call 17; refine Hdo2.out.mono ?_
                        rintro e w6 ⟨rfl, hn6, hf6⟩
                        have q0 := hf6.cell (show w5.drew.cell? ⟨gl, off + k * 6, none⟩ = _ from p0) hlow
                        have q1 := hf6.cell (show w5.drew.cell? ⟨gl, off + k * 6 + 1, none⟩ = _ from p1) hlow
                        have q2 := hf6.cell (show w5.drew.cell? ⟨gl, off + k * 6 + 2, none⟩ = _ from p2) hlow
                        have q3 := hf6.cell (show w5.drew.cell? ⟨gl, off + k * 6 + 3, none⟩ = _ from p3) hlow
                        have q4 := hf6.cell (show w5.drew.cell? ⟨gl, off + k * 6 + 4, none⟩ = _ from p4) hlow
                        have q5 := hf6.cell (show w5.drew.cell? ⟨gl, off + k * 6 + 5, none⟩ = _ from p5) hlow
                        have s0 := hf6.cell (show w5.drew.cell? ⟨w4.heap.size, 0, none⟩ = _ from r0) hpG
                        have s1 := hf6.cell (show w5.drew.cell? ⟨w4.heap.size, 1, none⟩ = _ from r1) hpG
                        have s2 := hf6.cell (show w5.drew.cell? ⟨w4.heap.size, 2, none⟩ = _ from r2) hpG
                        have Hn6 := Lib.hid hn6
                        have Hf6 := Lib.hid hf6
                        clear hn6 hf6))
            have hrel6 := lin_next HS5.out Hf5.out Hn6.out Hf6.out HQS'.out (HQT.out.do x) Hlin'.out HF4.out HG4.out hs5 (by omega)
            have Hrel6 := Lib.hid hrel6
            clear hrel6
            cases hk0 : (x.kind == 0) with
            | true =>
              have hk2 : (x.kind == 2) = false := by simp at hk0; simp [hk0]
              cases cut with
              | true =>
                have hcb : cutB true x.kind y0 = true := by simp [cutB, hk0, hk2]
                rw [hcb] at Hrel6
                go_wp2_with fail
                refine Hrel6.out.dead.1.mono ?_
                rintro e w7 ⟨A7, n7, rfl, hr7⟩
                have Hr7 := Lib.hid hr7
                clear hr7
                go_wp2_with fail
                refine Hr7.out.dead.2.mono ?_
                rintro e w8 ⟨A8, n8, rfl, hr8⟩
                have Hr8 := Lib.hid hr8
                clear hr8
                go_wp2_with fail
                all_goals exact ⟨⟨k + 1, _, by omega, by go_num, rfl, Hr8.out⟩, by simp [intOf]; omega⟩
              | false =>
                have hcb : cutB false x.kind y0 = false := by simp [cutB, hk0, hk2]
                rw [hcb] at Hrel6
                go_wp2_with fail
                all_goals exact ⟨⟨k + 1, _, by omega, by go_num, rfl, Hrel6.out⟩, by simp [intOf]; omega⟩
            | false =>
              cases hk1 : (x.kind == 1) with
              | true =>
                have hk2 : (x.kind == 2) = false := by simp at hk1; simp [hk1]
                cases cut with
                | true =>
                  have hcb : cutB true x.kind y0 = true := by simp [cutB, hk0, hk1, hk2]
                  rw [hcb] at Hrel6
                  go_wp2_with fail
                  refine Hrel6.out.dead.1.mono ?_
                  rintro e w7 ⟨A7, n7, rfl, hr7⟩
                  have Hr7 := Lib.hid hr7
                  clear hr7
                  go_wp2_with fail
                  refine Hr7.out.dead.2.mono ?_
                  rintro e w8 ⟨A8, n8, rfl, hr8⟩
                  have Hr8 := Lib.hid hr8
                  clear hr8
                  go_wp2_with fail
                  all_goals exact ⟨⟨k + 1, _, by omega, by go_num, rfl, Hr8.out⟩, by simp [intOf]; omega⟩
                | false =>
                  have hcb : cutB false x.kind y0 = false := by simp [cutB, hk0, hk1, hk2]
                  rw [hcb] at Hrel6
                  go_wp2_with fail
                  all_goals exact ⟨⟨k + 1, _, by omega, by go_num, rfl, Hrel6.out⟩, by simp [intOf]; omega⟩
              | false =>
                cases hk2 : (x.kind == 2) with
                | true =>
                  cases hy : (y0 == 0) with
                  | true =>
                    have hy' : (y0 != 0) = false := by rw [bne, hy]; rfl
                    cases cut with
                    | true =>
                      have hcb : cutB true x.kind y0 = true := by simp [cutB, hk0, hk1, hk2, hy]
                      rw [hcb] at Hrel6
                      go_wp2_with fail
                      refine Hrel6.out.dead.1.mono ?_
                      rintro e w7 ⟨A7, n7, rfl, hr7⟩
                      have Hr7 := Lib.hid hr7
                      clear hr7
                      go_wp2_with fail
                      refine Hr7.out.dead.2.mono ?_
                      rintro e w8 ⟨A8, n8, rfl, hr8⟩
                      have Hr8 := Lib.hid hr8
                      clear hr8
                      go_wp2_with fail
                      all_goals exact ⟨⟨k + 1, _, by omega, by go_num, rfl, Hr8.out⟩, by simp [intOf]; omega⟩
                    | false =>
                      have hcb : cutB false x.kind y0 = true := by simp [cutB, hk0, hk1, hk2, hy]
                      rw [hcb] at Hrel6
                      go_wp2_with fail
                      refine Hrel6.out.dead.1.mono ?_
                      rintro e w7 ⟨A7, n7, rfl, hr7⟩
                      have Hr7 := Lib.hid hr7
                      clear hr7
                      go_wp2_with fail
                      refine Hr7.out.dead.2.mono ?_
                      rintro e w8 ⟨A8, n8, rfl, hr8⟩
                      have Hr8 := Lib.hid hr8
                      clear hr8
                      go_wp2_with fail
                      all_goals exact ⟨⟨k + 1, _, by omega, by go_num, rfl, Hr8.out⟩, by simp [intOf]; omega⟩
                  | false =>
                    have hy' : (y0 != 0) = true := by rw [bne, hy]; rfl
                    cases cut with
                    | true =>
                      have hcb : cutB true x.kind y0 = true := by simp [cutB, hk0, hk1, hk2, hy]
                      rw [hcb] at Hrel6
                      go_wp2_with fail
                      refine Hrel6.out.dead.1.mono ?_
                      rintro e w7 ⟨A7, n7, rfl, hr7⟩
                      have Hr7 := Lib.hid hr7
                      clear hr7
                      go_wp2_with fail
                      refine Hr7.out.dead.2.mono ?_
                      rintro e w8 ⟨A8, n8, rfl, hr8⟩
                      have Hr8 := Lib.hid hr8
                      clear hr8
                      go_wp2_with fail
                      all_goals exact ⟨⟨k + 1, _, by omega, by go_num, rfl, Hr8.out⟩, by simp [intOf]; omega⟩
                    | false =>
                      have hcb : cutB false x.kind y0 = false := by simp [cutB, hk0, hk1, hk2, hy]
                      rw [hcb] at Hrel6
                      go_wp2_with fail
                      all_goals exact ⟨⟨k + 1, _, by omega, by go_num, rfl, Hrel6.out⟩, by simp [intOf]; omega⟩
                | false =>
                  cases hy : (y0 == 0) with
                  | true =>
                    have hy' : (y0 != 0) = false := by rw [bne, hy]; rfl
                    cases cut with
                    | true =>
                      have hcb : cutB true x.kind y0 = false := by simp [cutB, hk0, hk1, hk2, hy]
                      rw [hcb] at Hrel6
                      go_wp2_with fail
                      all_goals exact ⟨⟨k + 1, _, by omega, by go_num, rfl, Hrel6.out⟩, by simp [intOf]; omega⟩
                    | false =>
                      have hcb : cutB false x.kind y0 = false := by simp [cutB, hk0, hk1, hk2, hy]
                      rw [hcb] at Hrel6
                      go_wp2_with fail
                      all_goals exact ⟨⟨k + 1, _, by omega, by go_num, rfl, Hrel6.out⟩, by simp [intOf]; omega⟩
                  | false =>
                    have hy' : (y0 != 0) = true := by rw [bne, hy]; rfl
                    cases cut with
                    | true =>
                      have hcb : cutB true x.kind y0 = true := by simp [cutB, hk0, hk1, hk2, hy]
                      rw [hcb] at Hrel6
                      go_wp2_with fail
                      refine Hrel6.out.dead.1.mono ?_
                      rintro e w7 ⟨A7, n7, rfl, hr7⟩
                      have Hr7 := Lib.hid hr7
                      clear hr7
                      go_wp2_with fail
                      refine Hr7.out.dead.2.mono ?_
                      rintro e w8 ⟨A8, n8, rfl, hr8⟩
                      have Hr8 := Lib.hid hr8
                      clear hr8
                      go_wp2_with fail
                      all_goals exact ⟨⟨k + 1, _, by omega, by go_num, rfl, Hr8.out⟩, by simp [intOf]; omega⟩
                    | false =>
                      have hcb : cutB false x.kind y0 = false := by simp [cutB, hk0, hk1, hk2, hy]
                      rw [hcb] at Hrel6
                      go_wp2_with fail
                      all_goals exact ⟨⟨k + 1, _, by omega, by go_num, rfl, Hrel6.out⟩, by simp [intOf]; omega⟩
          | false =>
            have hox : onB x a b = false := by simp [onB, ha, ha', hb']
            obtain hlin' := Hoth.out hox
            have hrel5 := lin_same HS5.out Hf5.out HT5.out HQS'.out HQT.out hlin' HF4.out HG4.out hs5 (by omega)
            have Hrel6 := Lib.hid hrel5
            clear hrel5 hlin'
            cases cut with
            | true =>
              go_wp2_with fail
              refine Hrel6.out.dead.1.mono ?_
              rintro e w7 ⟨A7, n7, rfl, hr7⟩
              have Hr7 := Lib.hid hr7
              clear hr7
              go_wp2_with fail
              refine Hr7.out.dead.2.mono ?_
              rintro e w8 ⟨A8, n8, rfl, hr8⟩
              have Hr8 := Lib.hid hr8
              clear hr8
              go_wp2_with fail
              all_goals exact ⟨⟨k + 1, _, by omega, by go_num, rfl, Hr8.out⟩, by simp [intOf]; omega⟩
            | false =>
              go_wp2_with fail
              all_goals exact ⟨⟨k + 1, _, by omega, by go_num, rfl, Hrel6.out⟩, by simp [intOf]; omega⟩
    · obtain rfl : k = n := by omega
      obtain ⟨ew1, ew2⟩ := Hlin.out.wait
      have Ew1 := Lib.hid ew1
      have Ew2 := Lib.hid ew2
      clear ew1 ew2
      go_wp2_with fail
      refine (s_wait HS.out HQS.out a b).mono ?_
      rintro e w5 ⟨v5, rfl, hr5, hk5, hf5⟩
      have Hr5 := Lib.hid (hr5.rdS (wait_len HQS.out a b))
      have HS5 := Lib.hid (HS.out.fr hf5 (fun _ _ h => h))
      have HT5 := Lib.hid (HT.out.fr hf5 (fun _ _ h => h))
      have Hf5 := Lib.hid (Hfr.out.trans0 hf5)
      clear hr5 hk5 hf5
      go_wp2_with fail
      refine (s_wait HT5.out HQT.out a b).mono ?_
      rintro e w6 ⟨v6, rfl, hr6, hk6, hf6⟩
      have Hr6 := Lib.hid (hr6.rdS (wait_len HQT.out a b))
      have Hr5' := Lib.hid (Hr5.out.fr0 hf6)
      have HS6 := Lib.hid (HS5.out.fr hf6 (fun _ _ h => h))
      have HT6 := Lib.hid (HT5.out.fr hf6 (fun _ _ h => h))
      have Hf6 := Lib.hid (Hf5.out.trans0 hf6)
      clear hr6 hk6 hf6 HS5 HT5 Hr5 Hf5
      go_wp2_with fail
      refine (texts_any _ _ _ Hr5'.out Hr6.out).mono ?_
      rw [Ew1.out, show decide (nWait T a b = nWait T a b) = true from by simp]
      rintro e w7 ⟨rfl, hf7⟩
      have HS7 := Lib.hid (HS6.out.fr hf7 (fun _ _ h => h))
      have HT7 := Lib.hid (HT6.out.fr hf7 (fun _ _ h => h))
      have Hf7 := Lib.hid (Hf6.out.trans0 hf7)
      clear hf7 HS6 HT6 Hf6 Hr5' Hr6
      go_wp2_with fail
      refine (s_wait HS7.out HQS.out b a).mono ?_
      rintro e w8 ⟨v8, rfl, hr8, hk8, hf8⟩
      have Hr8 := Lib.hid (hr8.rdS (wait_len HQS.out b a))
      have HT8 := Lib.hid (HT7.out.fr hf8 (fun _ _ h => h))
      have Hf8 := Lib.hid (Hf7.out.trans0 hf8)
      clear hr8 hk8 hf8 HS7 HT7 Hf7
      go_wp2_with fail
      refine (s_wait HT8.out HQT.out b a).mono ?_
      rintro e w9 ⟨v9, rfl, hr9, hk9, hf9⟩
      have Hr9 := Lib.hid (hr9.rdS (wait_len HQT.out b a))
      have Hr8' := Lib.hid (Hr8.out.fr0 hf9)
      have Hf9 := Lib.hid (Hf8.out.trans0 hf9)
      clear hr9 hk9 hf9 HT8 Hr8 Hf8
      go_wp2_with fail
      refine (texts_any _ _ _ Hr8'.out Hr9.out).mono ?_
      rw [Ew2.out, show decide (nWait T b a = nWait T b a) = true from by simp]
      rintro e wx ⟨rfl, hfx⟩
      have Hfx := Lib.hid (Hf9.out.trans0 hfx)
      clear hfx
      go_wp2_with fail
      go_ret
      exact ⟨rfl, Hf1.out.trans0 Hfx.out⟩

set_option maxRecDepth 100000 in
theorem netLines_few {l : List Stp} (nodes a b : Int) (vl : Value) (w : World) (hl : RdP w vl l) (hm : ∀ x ∈ l, x.text.size ≤ 9223372036854775807) (hN1 : 1 ≤ nodes) (hN2 : nodes ≤ 8) (hfew : fewB l = false ∨ fewB l = true ∧ a = b) :
    Calls Try.prog 8 #[.int .i64 nodes, vl, .int .i64 a, .int .i64 b] w fun e w' => e = .returned (.bool true) ∧ Fr None' w w' := by
  obtain ⟨A, n, cap, rfl⟩ : ∃ A n cap, vl = .slice A n cap := by obtain ⟨A, n, cap, h, _⟩ := id hl; exact ⟨A, n, cap, h⟩
  have Hm := Lib.hid hm
  have Hl := Lib.hid hl
  have Hfew := Lib.hid hfew
  clear hm hl hfew
  go_enter Try.func8, Try.ntmps8
  go_wp2_with fail
  refine (head_any w).mono ?_
  rintro e w1 ⟨rfl, hf1⟩
  have Hf1 := Lib.hid hf1
  clear hf1
  go_wp2_with fail
  refine (s_new nodes w1 hN1 hN2).mono ?_
  rintro e w2 ⟨g, rfl, hn2, hf2⟩
  have Hf2 := Lib.hid hf2
  clear hn2 hf2
  go_wp2_with fail
  refine (s_new nodes w2 hN1 hN2).mono ?_
  rintro e w3 ⟨g2, rfl, hn3, hf3⟩
  have Hf3 := Lib.hid (Hf2.out.trans0 hf3)
  clear hn3 hf3
  go_wp2_with fail
  refine (few_any (Hl.out.fr0 (Hf1.out.trans0 Hf3.out)) Hm.out).mono ?_
  rcases Hfew.out with h | ⟨h, rfl⟩
  · rw [h]
    clear h Hfew
    rintro e w4 ⟨rfl, rfl⟩
    go_wp2_with fail
    go_ret
    exact ⟨rfl, Hf1.out.trans0 Hf3.out⟩
  · rw [h]
    have haa : (a == a) = true := by simp
    clear h Hfew
    rintro e w4 ⟨rfl, rfl⟩
    go_wp2_with fail
    go_ret
    exact ⟨rfl, Hf1.out.trans0 Hf3.out⟩
set_option maxRecDepth 100000 in
theorem netLines_bad {l : List Stp} (nodes a b : Int) (vl : Value) (w : World) (hl : RdP w vl l) (hm : ∀ x ∈ l, x.text.size ≤ 9223372036854775807) (hN : nodes < 1 ∨ 8 < nodes) (fb : Bool) (hfew : fewB l = fb) :
    Calls Try.prog 8 #[.int .i64 nodes, vl, .int .i64 a, .int .i64 b] w fun e w' => e = .returned (.bool true) ∧ Fr None' w w' := by
  obtain ⟨A, n, cap, rfl⟩ : ∃ A n cap, vl = .slice A n cap := by obtain ⟨A, n, cap, h, _⟩ := id hl; exact ⟨A, n, cap, h⟩
  have Hm := Lib.hid hm
  have Hl := Lib.hid hl
  have Hfew := Lib.hid hfew
  have HN := Lib.hid hN
  clear hm hl hfew hN
  go_enter Try.func8, Try.ntmps8
  go_wp2_with fail
  refine (head_any w).mono ?_
  rintro e w1 ⟨rfl, hf1⟩
  have Hf1 := Lib.hid hf1
  clear hf1
  go_wp2_with fail
  refine (s_new_bad nodes w1 HN.out).mono ?_
  rintro e w2 ⟨rfl, hf2⟩
  have Hf2 := Lib.hid hf2
  clear hf2
  go_wp2_with fail
  refine (s_new_bad nodes w2 HN.out).mono ?_
  rintro e w3 ⟨rfl, hf3⟩
  have Hf3 := Lib.hid (Hf2.out.trans0 hf3)
  clear hf3
  go_wp2_with fail
  refine (few_any (Hl.out.fr0 (Hf1.out.trans0 Hf3.out)) Hm.out).mono ?_
  rw [Hfew.out]
  rintro e w4 ⟨rfl, rfl⟩
  cases fb with
  | true =>
    go_wp2_with fail
    go_ret
    exact ⟨rfl, Hf1.out.trans0 Hf3.out⟩
  | false =>
    go_wp2_with fail
    go_ret
    exact ⟨rfl, Hf1.out.trans0 Hf3.out⟩
open Go.ChangeShapes Go.WideShapes in
theorem open_steps2 {H : Type} {enc : TypeId × Value → H} (W : World) {b0 : Nat} {v : Value} {d : DataW H} {p : List MemPlace}
    (o : Value.okWide Try.prog W .any b0 36 v) (k : DataW.Trod enc Try.prog W 0 (fun _ => true) true 36 v d p) (z : (d.weights Try.prog 36).all (· ≤ reachBytes) = true) :
    ∃ l, RdP W v l ∧ ∀ x ∈ l, x.text.size ≤ 9223372036854775807 := by
  obtain ⟨l, hl, hm⟩ := open_list 6 48 Stp.cells (fun a => a.text.size ≤ maxLen ∧ (Lit.int .i64 a.kind).wf = true) Try.underlying36 (by kernel_rfl) (by decide) (by kernel_rfl) (by decide) elem_step o k z
  exact ⟨l, hl, fun x hx => by have := (hm x hx).1; simpa [maxLen] using this⟩
open Go.ChangeShapes Go.WideShapes in
theorem netLines_walk {H : Type} {enc : TypeId × Value → H} (W : World) {b0 : Nat} {v1 : Value} {d1 : DataW H} {p1 : List MemPlace} (a0 : Int) (w0 : (Lit.int .i64 a0).wf = true)
    (o1 : Value.okWide Try.prog W .any b0 36 v1) (k1 : DataW.Trod enc Try.prog W 0 (fun _ => true) true 36 v1 d1 p1) (z1 : (d1.weights Try.prog 36).all (· ≤ reachBytes) = true) (a2 : Int) (w2 : (Lit.int .i64 a2).wf = true) (a3 : Int) (w3 : (Lit.int .i64 a3).wf = true) :
    Calls Try.prog 8 #[.int .i64 a0, v1, .int .i64 a2, .int .i64 a3] W fun e w' => e = .returned (.bool true) ∧ Below W.heap.size W w' := by
  obtain ⟨l, hl, hm⟩ := open_steps2 W o1 k1 z1
  have fin : ∀ e w', e = Ending.returned (.bool true) ∧ Fr None' W w' → e = .returned (.bool true) ∧ Below W.heap.size W w' := fun e w' ⟨he, hf⟩ => ⟨he, hf.below (fun _ h => h.elim) (Nat.le_refl _)⟩
  by_cases hN : a0 < 1 ∨ 8 < a0
  · exact (netLines_bad a0 a2 a3 v1 W hl hm hN _ rfl).mono fin
  · cases hf : fewB l with
    | true =>
      by_cases hab : a2 = a3
      · exact (netLines_few a0 a2 a3 v1 W hl hm (by omega) (by omega) (.inr ⟨hf, hab⟩)).mono fin
      · exact (netLines_any a0 a2 a3 v1 W hl hm (by omega) (by omega) hf hab).mono fin
    | false => exact (netLines_few a0 a2 a3 v1 W hl hm (by omega) (by omega) (.inl hf)).mono fin
end Go.Proofs.Ytdgcimjpggjnjaa

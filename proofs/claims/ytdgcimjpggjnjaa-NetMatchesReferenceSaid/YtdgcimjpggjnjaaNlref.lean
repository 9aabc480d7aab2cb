/- NetMatchesReference: the walk. -/
import Derived.Test.YtdgcimjpggjnjaaNref7
import Derived.Test.YtdgcimjpggjnjaaNtext
set_option linter.unusedVariables false
set_option linter.unusedSimpArgs false
namespace Go.Proofs.Ytdgcimjpggjnjaa
open Go.RowKit

def MRel (w1 : World) (g m : Nat) (k : Nat) (wr : World) : Prop :=
  ∃ F G S R, NetS wr F g S ∧ RefIs wr G m R ∧ QB S ∧ Sim S R ∧ (∀ j, F j → w1.heap.size ≤ j ∧ j < wr.heap.size) ∧ (∀ j, G j → w1.heap.size ≤ j ∧ j < wr.heap.size) ∧ (∀ j, F j → ¬ G j) ∧ R.L.length ≤ k ∧ R.G.length ≤ k ∧ Fr None' w1 wr
theorem MRel.fr0 {w1 w w' : World} {g m k : Nat} (h : MRel w1 g m k w) (hf : Fr None' w w') : MRel w1 g m k w' := by
  obtain ⟨F, G, S, R, h1, h2, h3, h4, h5, h6, h7, h8, h9, h10⟩ := h
  exact ⟨F, G, S, R, h1.fr hf (fun _ _ h => h), h2.fr hf (fun _ _ h => h), h3, h4, fun j hj => ⟨(h5 j hj).1, Nat.lt_of_lt_of_le (h5 j hj).2 hf.size⟩, fun j hj => ⟨(h6 j hj).1, Nat.lt_of_lt_of_le (h6 j hj).2 hf.size⟩, h7, h8, h9, h10.trans0 hf⟩
theorem m_next {w1 w0 w4 w5 : World} {g m k : Nat} {F G : Nat → Prop} {S' : NS} {R' : RS} (hn : NetS w4 (Ext F w0 w4) g S') (hf4 : Fr F w0 w4) (hr : RefIs w5 (Ext G w4 w5) m R') (hf5 : Fr G w4 w5) (hQ : QB S') (hsim : Sim S' R')
    (hF : ∀ j, F j → w1.heap.size ≤ j ∧ j < w0.heap.size) (hG : ∀ j, G j → w1.heap.size ≤ j ∧ j < w0.heap.size) (hFG : ∀ j, F j → ¬ G j) (hL : R'.L.length ≤ k) (hGl : R'.G.length ≤ k) (hf0 : Fr None' w1 w0) : MRel w1 g m k w5 := by
  have s0 := hf0.size
  have s4 := hf4.size
  have s5 := hf5.size
  refine ⟨Ext F w0 w4, Ext G w4 w5, S', R', hn.fr hf5 (fun j hj hg => ?_), hr, hQ, hsim, ?_, ?_, ?_, hL, hGl, (hf0.trans hf4 (fun i hi h => by have := (hF i h).1; omega)).trans hf5 (fun i hi h => by have := (hG i h).1; omega)⟩
  · rcases hj with hj | hj
    · exact hFG j hj hg
    · have := (hG j hg).2; omega
  · intro j hj
    rcases hj with hj | hj
    · have := hF j hj; exact ⟨this.1, by omega⟩
    · exact ⟨by omega, by omega⟩
  · intro j hj
    rcases hj with hj | hj
    · have := hG j hj; exact ⟨this.1, by omega⟩
    · exact ⟨by omega, by omega⟩
  · intro j hj hg
    rcases hj with hj | hj
    · rcases hg with hg | hg
      · exact hFG j hj hg
      · have := (hF j hj).2; omega
    · rcases hg with hg | hg
      · have := (hG j hg).2; omega
      · omega
theorem MRel.wait {w1 w : World} {g m k : Nat} (h : MRel w1 g m k w) : ∃ S, QB S ∧
    (∀ a b, Calls Try.prog 14 #[.pointer (some ⟨g, 0, none⟩), .int .i64 a, .int .i64 b] w fun e w' => ∃ v, e = .returned v ∧ RdS w' v (nWait S a b) ∧ Fr None' w w') ∧
    (∀ w', Fr None' w w' → ∀ a b, Calls Try.prog 19 #[.pointer (some ⟨m, 0, none⟩), .int .i64 a, .int .i64 b] w' fun e w'' => ∃ v, e = .returned v ∧ RdS w'' v (nWait S a b) ∧ Fr None' w' w'') ∧
    (∀ w', Fr None' w w' → ∀ a b, Calls Try.prog 14 #[.pointer (some ⟨g, 0, none⟩), .int .i64 a, .int .i64 b] w' fun e w'' => ∃ v, e = .returned v ∧ RdS w'' v (nWait S a b) ∧ Fr None' w' w'') := by
  obtain ⟨F, G, S, R, h1, h2, h3, h4, _⟩ := h
  have hl : ∀ a b, (nWait S a b).length ≤ 9007199254740992 := by
    intro a b
    unfold nWait waitL
    have := h3 a b
    split
    · omega
    · simp
  have key : ∀ w', Fr None' w w' → ∀ a b, Calls Try.prog 14 #[.pointer (some ⟨g, 0, none⟩), .int .i64 a, .int .i64 b] w' fun e w'' => ∃ v, e = .returned v ∧ RdS w'' v (nWait S a b) ∧ Fr None' w' w'' := by
    intro w' hf a b
    refine (s_wait (h1.fr hf (fun _ _ h => h)) h3 a b).mono ?_
    rintro e w'' ⟨v, he, hr, _, hf'⟩
    exact ⟨v, he, hr.rdS (hl a b), hf'⟩
  refine ⟨S, h3, key w (Fr.refl _ _), fun w' hf a b => ?_, key⟩
  refine (rwait_any (h2.fr hf (fun _ _ h => h)) a b).mono ?_
  rintro e w'' ⟨v, he, hr, hf'⟩
  rw [← h4.wait] at hr
  exact ⟨v, he, hr.rdS (hl a b), hf'⟩

set_option maxRecDepth 10000 in
set_option maxHeartbeats 4000000 in
theorem netRef_any {l : List Stp} (nodes a b : Int) (vl : Value) (w : World) (hl : RdP w vl l) (hm : ∀ x ∈ l, x.text.size ≤ 9223372036854775807) (hN1 : 1 ≤ nodes) (hN2 : nodes ≤ 8) (hfew : fewB l = true) :
    Calls Try.prog 5 #[.int .i64 nodes, vl, .int .i64 a, .int .i64 b] w fun e w' => e = .returned (.bool true) ∧ Fr None' w w' := by
  obtain ⟨A, n, cap, rfl, hn, hln, hA⟩ := id hl
  have Hm := Lib.hid hm
  have Hl := Lib.hid hl
  have Hfew := Lib.hid hfew
  clear hm hl hA hfew
  have h150 : l.length ≤ 150 := by have := Hfew.out; rw [fewB, decide_eq_true_eq] at this; exact this.1
  have hn150 : n ≤ 150 := by omega
  have Hn := Lib.hid hn
  clear hn
  go_enter Try.func5, Try.ntmps5
  go_wp2_with fail
  refine (head_any w).mono ?_
  rintro e w1 ⟨rfl, hf1⟩
  have Hf1 := Lib.hid hf1
  clear hf1
  go_wp2_with fail
  refine (few_any (Hl.out.fr0 Hf1.out) Hm.out).mono ?_
  rw [Hfew.out]
  rintro e w1' ⟨rfl, rfl⟩
  go_wp2_with fail
  refine (s_new nodes w1' hN1 hN2).mono ?_
  rintro e w2 ⟨g, rfl, hn2, hf2⟩
  have hb2 : w1'.heap.size ≤ w2.heap.size := hf2.size
  have Hn2 : Hid (NetS w2 (Own w1'.heap.size w2) g (NS.new nodes)) := Lib.hid (hn2.mono (fun k hk => by rcases hk with hk | hk; exact hk.elim; exact hk))
  have Hf2 := Lib.hid hf2
  clear hn2 hf2
  go_wp2_with fail
  refine (rnew_ok nodes w2 hN1 hN2).mono ?_
  rintro e w3 ⟨m, rfl, hn3, hf3⟩
  have hb3 : w2.heap.size ≤ w3.heap.size := hf3.size
  have Hn3 : Hid (RefIs w3 (Own w2.heap.size w3) m ⟨nodes, [], []⟩) := Lib.hid (hn3.mono (fun k hk => by rcases hk with hk | hk; exact hk.elim; exact hk))
  have Hn2' := Lib.hid (Hn2.out.fr hf3 (fun _ _ h => h))
  have Hf3 := Lib.hid (Hf2.out.trans0 hf3)
  clear hn3 hf3 Hn2 Hf2
  go_wp2_with fail
  go_loopw [14] (fun i wr => ∃ k : Nat, k ≤ n ∧ i = .int .i64 k ∧ MRel w1' g m k wr) (fun i _ => n - (intOf i).toNat)
  case atStart => exact ⟨0, Nat.zero_le _, rfl, _, _, _, _, Hn2'.out, Hn3.out, QB.new _, Sim.new _, fun k hk => ⟨hk.1, Nat.lt_of_lt_of_le hk.2 hb3⟩, fun k hk => ⟨Nat.le_trans hb2 hk.1, hk.2⟩, fun k hk h => absurd hk.2 (by have := h.1; omega), by simp, by simp, Hf3.out⟩
  case round =>
    obtain ⟨k, hk, rfl, hr⟩ := hrel
    have hfr : Fr None' w1' wr := by obtain ⟨_, _, _, _, _, _, _, _, _, _, _, _, _, h⟩ := hr; exact h
    have Hfr := Lib.hid hfr
    have Hr := Lib.hid hr
    clear hfr hr
    by_cases hlt : k < n
    · obtain ⟨x, hx⟩ : ∃ x, l[k]? = some x := ⟨_, List.getElem?_eq_getElem (by rw [← Hn.out]; exact hlt)⟩
      obtain ⟨gl, off, rfl, hgl⟩ : ∃ gl off, A = some ⟨gl, off, none⟩ ∧ gl < w.heap.size := by
        obtain ⟨_, _, _, he, _, _, h0⟩ := Hl.out
        cases he
        obtain ⟨gl, off, h, hc⟩ := h0 (by omega)
        exact ⟨gl, off, h, World.block_lt_of_cell? _ _ (hc k x hx 0 _ rfl)⟩
      obtain ⟨F, G, S, R, hS, hR, hQS, hsim, hF, hG, hFG, hL, hGl, _⟩ := Hr.out
      have hlr := Hl.out.fr0 ((Hf1.out.trans0 Hfr.out).drew)
      obtain ⟨c0, c1, c2, c3, c4, c5⟩ := RdP.get hlr hx
      have hxm : x.text.size ≤ 9223372036854775807 := Hm.out x (List.mem_of_getElem? hx)
      have hgl1 : gl < w1'.heap.size := Nat.lt_of_lt_of_le hgl Hf1.out.size
      have hglF : ¬ F gl := fun h => by have := (hF gl h).1; omega
      have hglG : ¬ G gl := fun h => by have := (hG gl h).1; omega
      have hki : (k : Int) < (n : Int) := by omega
      have hk0 : (0 : Int) ≤ (k : Int) := by omega
      have hdsz : wr.drew.heap.size = wr.heap.size := rfl
      have hdo := do_any (hS.fr (Fr.drew (Fr.refl None' wr)) (fun _ _ h => h)) (fun j hj h => absurd (hF j h).2 (by omega)) hQS x hxm
      obtain ⟨he, hsim'⟩ := hsim.do x
      have hlen := rDo_len R x
      have hQ' := hQS.do x
      obtain ⟨⟨y0, y1, y2⟩, S', hrs⟩ : ∃ r S', nDo S x = (r, S') := ⟨_, _, rfl⟩
      obtain ⟨r', R', hrr⟩ : ∃ r R', rDo R x = (r, R') := ⟨_, _, rfl⟩
      have hrdo : ∀ w4, Fr F wr.drew w4 → Calls Try.prog 18 #[.pointer (some ⟨m, 0, none⟩), x.val] w4 fun e w' => e = .returned (rDo R x).1.val ∧ RefIs w' (Ext G w4 w') m (rDo R x).2 ∧ Fr G w4 w' := fun w4 hf4 =>
        rdo_any ((hR.fr (Fr.drew (Fr.refl None' wr)) (fun _ _ h => h)).fr hf4 (fun j hj h => hFG j h hj)) (fun j hj h => absurd (hG j h).2 (by have := hf4.size; omega)) (by omega) (by omega) x hxm
      rw [hrs] at hdo he hsim' hQ'
      rw [hrr] at he hrdo hsim' hlen
      simp only at he hsim' hrdo hdo hlen hQ'
      subst he
      rw [Stp.val, Rst.val] at hdo hrdo
      have hnext : ∀ w4 w5, NetS w4 (Ext F wr.drew w4) g S' → Fr F wr.drew w4 → RefIs w5 (Ext G w4 w5) m R' → Fr G w4 w5 → MRel w1' g m (k + 1) w5 := fun w4 w5 a1 a2 a3 a4 => m_next a1 a2 a3 a4 hQ' hsim' hF hG hFG (by omega) (by omega) Hfr.out.drew
      have Hdo := Lib.hid hdo
      have Hrdo := Lib.hid hrdo
      have Hnext := Lib.hid hnext
      have hbs := beq_same y1
      clear hS hR hQS hsim hF hG hFG hL hGl hdo hsim' hlen hQ' hrs hrr hrdo hnext hlr hgl hx
      go_wp2_with fail
      go_region_held3 (fun W => W.cell? ⟨gl, off + k * 6, none⟩ = some (.int .i64 x.kind) ∧ W.cell? ⟨gl, off + k * 6 + 1, none⟩ = some (.int .i64 x.a) ∧ W.cell? ⟨gl, off + k * 6 + 2, none⟩ = some (.int .i64 x.b) ∧ W.cell? ⟨gl, off + k * 6 + 3, none⟩ = some (.string x.text) ∧ W.cell? ⟨gl, off + k * 6 + 4, none⟩ = some (.bool x.lost) ∧ W.cell? ⟨gl, off + k * 6 + 5, none⟩ = some (.bool x.again))
        (first | exact ⟨c0, c1, c2, c3, c4, c5⟩ | exact ⟨p0, p1, p2, p3, p4, p5⟩ | exact ⟨q0, q1, q2, q3, q4, q5⟩ | exact ⟨r0, r1, r2, r3, r4, r5⟩ | exact ⟨s0, s1, s2, s3, s4, s5⟩ | exact ⟨t0, t1, t2, t3, t4, t5⟩ | exact ⟨i0, i1, i2, i3, i4, i5⟩ | exact ⟨j0, j1, j2, j3, j4, j5⟩ | exact ⟨k0, k1, k2, k3, k4, k5⟩)
        (first | (go_at_call 13; refine (texts_any _ _ _ Hr9a.out Hra.out).mono ?_
                  rw [show decide (nWait T a b = nWait T a b) = true from by simp]
                  rintro e wb ⟨rfl, hfb⟩
                  have k0 := hfb.cell j0 (fun h => h)
                  have k1 := hfb.cell j1 (fun h => h)
                  have k2 := hfb.cell j2 (fun h => h)
                  have k3 := hfb.cell j3 (fun h => h)
                  have k4 := hfb.cell j4 (fun h => h)
                  have k5 := hfb.cell j5 (fun h => h)
                  have Hfb := Lib.hid (Hfa.out.trans0 hfb)
                  clear hfb)
               | (go_at_call 19; refine (Hw2.out w9 Hf9.out a b).mono ?_
                  rintro e wa ⟨va, rfl, hra, hfa⟩
                  have j0 := hfa.cell i0 (fun h => h)
                  have j1 := hfa.cell i1 (fun h => h)
                  have j2 := hfa.cell i2 (fun h => h)
                  have j3 := hfa.cell i3 (fun h => h)
                  have j4 := hfa.cell i4 (fun h => h)
                  have j5 := hfa.cell i5 (fun h => h)
                  have Hr9a := Lib.hid (Hr9.out.fr0 hfa)
                  have Hra := Lib.hid hra
                  have Hfa := Lib.hid (Hf9.out.trans0 hfa)
                  clear hra hfa)
               | (go_at_call 14; refine (Hw3.out w8 Hf8.out a b).mono ?_
                  rintro e w9 ⟨v9, rfl, hr9, hf9⟩
                  have i0 := hf9.cell t0 (fun h => h)
                  have i1 := hf9.cell t1 (fun h => h)
                  have i2 := hf9.cell t2 (fun h => h)
                  have i3 := hf9.cell t3 (fun h => h)
                  have i4 := hf9.cell t4 (fun h => h)
                  have i5 := hf9.cell t5 (fun h => h)
                  have Hr9 := Lib.hid hr9
                  have Hf9 := Lib.hid (Hf8.out.trans0 hf9)
                  clear hr9 hf9)
               | (go_at_call 13; refine (texts_any _ _ _ Hr67.out Hr7.out).mono ?_
                  rw [show decide (nWait T x.a x.b = nWait T x.a x.b) = true from by simp]
                  rintro e w8 ⟨rfl, hf8⟩
                  have t0 := hf8.cell s0 (fun h => h)
                  have t1 := hf8.cell s1 (fun h => h)
                  have t2 := hf8.cell s2 (fun h => h)
                  have t3 := hf8.cell s3 (fun h => h)
                  have t4 := hf8.cell s4 (fun h => h)
                  have t5 := hf8.cell s5 (fun h => h)
                  have Hf8 := Lib.hid (Hf7.out.trans0 hf8)
                  clear hf8)
               | (go_at_call 19; refine (Hw2.out w6 Hf6.out x.a x.b).mono ?_
                  rintro e w7 ⟨v7, rfl, hr7, hf7⟩
                  have s0 := hf7.cell r0 (fun h => h)
                  have s1 := hf7.cell r1 (fun h => h)
                  have s2 := hf7.cell r2 (fun h => h)
                  have s3 := hf7.cell r3 (fun h => h)
                  have s4 := hf7.cell r4 (fun h => h)
                  have s5 := hf7.cell r5 (fun h => h)
                  have Hr67 := Lib.hid (Hr6.out.fr0 hf7)
                  have Hr7 := Lib.hid hr7
                  have Hf7 := Lib.hid (Hf6.out.trans0 hf7)
                  have Hg7 := Lib.hid hf7
                  clear hr7 hf7)
               | (go_at_call 14; obtain ⟨T, hT, hw1, hw2, hw3⟩ := Hn5.out.wait
                  refine (hw1 x.a x.b).mono ?_
                  rintro e w6 ⟨v6, rfl, hr6, hf6⟩
                  have r0 := hf6.cell q0 (fun h => h)
                  have r1 := hf6.cell q1 (fun h => h)
                  have r2 := hf6.cell q2 (fun h => h)
                  have r3 := hf6.cell q3 (fun h => h)
                  have r4 := hf6.cell q4 (fun h => h)
                  have r5 := hf6.cell q5 (fun h => h)
                  have Hw2 := Lib.hid hw2
                  have Hw3 := Lib.hid hw3
                  have Hr6 := Lib.hid hr6
                  have Hf6 := Lib.hid hf6
                  clear hT hw1 hw2 hw3 hr6 hf6)
               | (go_at_call 18; refine (Hrdo.out w4 Hf4.out).mono ?_
                  rintro e w5 ⟨rfl, hn5, hf5⟩
                  have q0 := hf5.cell p0 hglG
                  have q1 := hf5.cell p1 hglG
                  have q2 := hf5.cell p2 hglG
                  have q3 := hf5.cell p3 hglG
                  have q4 := hf5.cell p4 hglG
                  have q5 := hf5.cell p5 hglG
                  have Hn5 := Lib.hid (Hnext.out w4 w5 Hn4.out Hf4.out hn5 hf5)
                  clear hn5 hf5)
               | (go_at_call 17; refine Hdo.out.mono ?_
                  rintro e w4 ⟨rfl, hn4, hf4⟩
                  have p0 := hf4.cell c0 hglF
                  have p1 := hf4.cell c1 hglF
                  have p2 := hf4.cell c2 hglF
                  have p3 := hf4.cell c3 hglF
                  have p4 := hf4.cell c4 hglF
                  have p5 := hf4.cell c5 hglF
                  have Hn4 := Lib.hid hn4
                  have Hf4 := Lib.hid hf4
                  clear hn4 hf4))
      go_wp2_with fail
      all_goals exact ⟨⟨k + 1, by omega, by go_num, Hn5.out.fr0 Hfb.out⟩, by simp [intOf]; omega⟩
    · obtain rfl : k = n := by omega
      go_wp2_with fail
      go_ret
      exact ⟨rfl, Hf1.out.trans0 Hfr.out⟩
set_option maxRecDepth 10000 in
theorem netRef_few {l : List Stp} (nodes a b : Int) (vl : Value) (w : World) (hl : RdP w vl l) (hm : ∀ x ∈ l, x.text.size ≤ 9223372036854775807) (hfew : fewB l = false) :
    Calls Try.prog 5 #[.int .i64 nodes, vl, .int .i64 a, .int .i64 b] w fun e w' => e = .returned (.bool true) ∧ Fr None' w w' := by
  obtain ⟨A, n, cap, rfl⟩ : ∃ A n cap, vl = .slice A n cap := by obtain ⟨A, n, cap, h, _⟩ := id hl; exact ⟨A, n, cap, h⟩
  have Hm := Lib.hid hm
  have Hl := Lib.hid hl
  have Hfew := Lib.hid hfew
  clear hm hl hfew
  go_enter Try.func5, Try.ntmps5
  go_wp2_with fail
  refine (head_any w).mono ?_
  rintro e w1 ⟨rfl, hf1⟩
  have Hf1 := Lib.hid hf1
  clear hf1
  go_wp2_with fail
  refine (few_any (Hl.out.fr0 Hf1.out) Hm.out).mono ?_
  rw [Hfew.out]
  rintro e w1' ⟨rfl, rfl⟩
  go_wp2_with fail
  go_ret
  exact ⟨rfl, Hf1.out⟩
set_option maxRecDepth 10000 in
theorem netRef_bad {l : List Stp} (nodes a b : Int) (vl : Value) (w : World) (hl : RdP w vl l) (hm : ∀ x ∈ l, x.text.size ≤ 9223372036854775807) (hN : nodes < 1 ∨ 8 < nodes) (hfew : fewB l = true) :
    Calls Try.prog 5 #[.int .i64 nodes, vl, .int .i64 a, .int .i64 b] w fun e w' => e = .returned (.bool true) ∧ Fr None' w w' := by
  obtain ⟨A, n, cap, rfl⟩ : ∃ A n cap, vl = .slice A n cap := by obtain ⟨A, n, cap, h, _⟩ := id hl; exact ⟨A, n, cap, h⟩
  have Hm := Lib.hid hm
  have Hl := Lib.hid hl
  have Hfew := Lib.hid hfew
  have HN := Lib.hid hN
  clear hm hl hfew hN
  go_enter Try.func5, Try.ntmps5
  go_wp2_with fail
  refine (head_any w).mono ?_
  rintro e w1 ⟨rfl, hf1⟩
  have Hf1 := Lib.hid hf1
  clear hf1
  go_wp2_with fail
  refine (few_any (Hl.out.fr0 Hf1.out) Hm.out).mono ?_
  rw [Hfew.out]
  rintro e w1' ⟨rfl, rfl⟩
  go_wp2_with fail
  refine (s_new_bad nodes w1' HN.out).mono ?_
  rintro e w2 ⟨rfl, hf2⟩
  have Hf2 := Lib.hid hf2
  clear hf2
  go_wp2_with fail
  refine (rnew_bad nodes w2 HN.out).mono ?_
  rintro e w3 ⟨rfl, hf3⟩
  have Hf3 := Lib.hid (Hf2.out.trans0 hf3)
  clear hf3
  go_wp2_with fail
  go_loopw [14] (fun i wr => wr = w3 ∧ i = .int .i64 0) (fun _ _ => 0)
  case atStart => exact ⟨rfl, rfl⟩
  case round =>
    obtain ⟨rfl, rfl⟩ := hrel
    by_cases h0 : (0 : Int) < (n : Int)
    · go_wp2_with fail
      go_ret
      exact ⟨rfl, Hf1.out.trans0 Hf3.out⟩
    · go_wp2_with fail
      go_ret
      exact ⟨rfl, Hf1.out.trans0 Hf3.out⟩
open Go.ChangeShapes Go.WideShapes in
theorem open_steps3 {H : Type} {enc : TypeId × Value → H} (W : World) {b0 : Nat} {v : Value} {d : DataW H} {p : List MemPlace}
    (o : Value.okWide Try.prog W .any b0 36 v) (k : DataW.Trod enc Try.prog W 0 (fun _ => true) true 36 v d p) (z : (d.weights Try.prog 36).all (· ≤ reachBytes) = true) :
    ∃ l, RdP W v l ∧ ∀ x ∈ l, x.text.size ≤ 9223372036854775807 := by
  obtain ⟨l, hl, hm⟩ := open_list 6 48 Stp.cells (fun a => a.text.size ≤ maxLen ∧ (Lit.int .i64 a.kind).wf = true) Try.underlying36 (by kernel_rfl) (by decide) (by kernel_rfl) (by decide) elem_step o k z
  exact ⟨l, hl, fun x hx => by have := (hm x hx).1; simpa [maxLen] using this⟩
open Go.ChangeShapes Go.WideShapes in
theorem netRef_walk {H : Type} {enc : TypeId × Value → H} (W : World) {b0 : Nat} {v1 : Value} {d1 : DataW H} {p1 : List MemPlace} (a0 : Int) (w0 : (Lit.int .i64 a0).wf = true)
    (o1 : Value.okWide Try.prog W .any b0 36 v1) (k1 : DataW.Trod enc Try.prog W 0 (fun _ => true) true 36 v1 d1 p1) (z1 : (d1.weights Try.prog 36).all (· ≤ reachBytes) = true) (a2 : Int) (w2 : (Lit.int .i64 a2).wf = true) (a3 : Int) (w3 : (Lit.int .i64 a3).wf = true) :
    Calls Try.prog 5 #[.int .i64 a0, v1, .int .i64 a2, .int .i64 a3] W fun e w' => e = .returned (.bool true) ∧ Below W.heap.size W w' := by
  obtain ⟨l, hl, hm⟩ := open_steps3 W o1 k1 z1
  have fin : ∀ e w', e = Ending.returned (.bool true) ∧ Fr None' W w' → e = .returned (.bool true) ∧ Below W.heap.size W w' := fun e w' ⟨he, hf⟩ => ⟨he, hf.below (fun _ h => h.elim) (Nat.le_refl _)⟩
  cases hf : fewB l with
  | true =>
    by_cases hN : a0 < 1 ∨ 8 < a0
    · exact (netRef_bad a0 a2 a3 v1 W hl hm hN hf).mono fin
    · exact (netRef_any a0 a2 a3 v1 W hl hm (by omega) (by omega) hf).mono fin
  | false => exact (netRef_few a0 a2 a3 v1 W hl hm hf).mono fin
end Go.Proofs.Ytdgcimjpggjnjaa

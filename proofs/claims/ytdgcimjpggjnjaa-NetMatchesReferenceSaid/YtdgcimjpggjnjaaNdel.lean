/- Package net: Deliver. -/
import Derived.Test.YtdgcimjpggjnjaaNet
import Derived.Defers
set_option linter.unusedVariables false
set_option linter.unusedSimpArgs false
namespace Go.Proofs.Ytdgcimjpggjnjaa
open Go.RowKit

theorem strs_tail (l : List ByteArray) : (strs l).drop 1 = strs (l.drop 1) := by simp [strs]

/-- The oldest text goes. -/
theorem take_d {w : World} {F : Nat → Prop} {g : Nat} {N : Int} {q : Int → Int → List ByteArray} {c : Int → Int → Bool} (hn : NetIs w F g N q c) (a b : Int) (bx bw : Nat)
    (cb : w.cell? ⟨bx, 0, none⟩ = some (.pointer (some ⟨g, 0, none⟩))) (c0 : w.cell? ⟨bw, 0, none⟩ = some (.int .i64 a)) (c1 : w.cell? ⟨bw, 1, none⟩ = some (.int .i64 b)) (hbx : ¬ F bx) (hbw : ¬ F bw)
    (h0 : 0 < (q a b).length) (h1 : (q a b).length ≤ 1000000) (u : FrameMode) :
    CallsD Try.prog 23 #[.pointer (some ⟨bx, 0, none⟩), .pointer (some ⟨bw, 0, none⟩)] u w fun e u' w' => u' = u ∧ e = .returned (.tuple #[]) ∧ NetIs w' (Ext F w w') g N (qset q a b ((q a b).drop 1)) c ∧ Fr F w w' := by
  obtain ⟨mq, mc, LQ, kq, LC, kc, hn⟩ := hn
  obtain ⟨hg, hg1, hg2, hlt⟩ := hn.cells
  obtain ⟨A, n, cap, hv, hl⟩ := (hn.row a b).form
  have hl' : n = (q a b).length := by rw [strs_length] at hl; omega
  have hn1 : 1 ≤ n := by omega
  have hrow := hn.row a b
  rw [hv] at hrow
  have hncap : n ≤ cap := by obtain ⟨A', n', cap', he, h2, h3, h4⟩ := hrow; cases he; exact h3
  have hsub := hrow.sub 1 n cap (by omega) (Nat.le_refl _) hncap (Nat.le_refl _)
  obtain ⟨A1, hA1⟩ : ∃ A1, A1 = (if cap = 1 then A else A.map (·.add (1 * 1))) := ⟨_, rfl⟩
  rw [← hA1] at hsub
  have hlt1 : (strs (q a b)).drop (1 * 1) = strs ((q a b).drop 1) := by simp [strs]
  have htk : ((strs (q a b)).drop (1 * 1)).take ((n - 1) * 1) = strs ((q a b).drop 1) := by
    rw [hlt1]; apply List.take_of_length_le; rw [strs_length]; simp; omega
  rw [htk] at hsub
  have hsl := fun W : World => run_slice_lo (P := Try.prog) W 22 9 1 Try.underlying22 (by kernel_rfl) A n cap .i64 1 hn1
  rw [← hA1] at hsl
  simp only [Int.natCast_one] at hsl
  have hlk := hn.look a b w.drew rfl
  rw [hv] at hlk
  have hown := hn.own a b
  rw [hv] at hown
  have lbx : bx < w.heap.size := World.block_lt_of_cell? _ _ cb
  have lbw : bw < w.heap.size := World.block_lt_of_cell? _ _ c0
  have hbxq : bx ≠ mq := fun e => hbx (e ▸ hn.fq)
  have hbwq : bw ≠ mq := fun e => hbw (e ▸ hn.fq)
  have Hn := Lib.hid hn
  have Hv := Lib.hid hv
  have Hsub := Lib.hid (show Row w.drew 1 (.slice A1 (n - 1) (cap - 1)) (strs ((q a b).drop 1)) from hsub)
  have Hbx := Lib.hid hbx
  have Hbw := Lib.hid hbw
  have Hlen := Lib.hid (show ((q a b).drop 1).length ≤ 1000000 by simp; omega)
  clear hn hv hl hl' hrow hncap hsub hA1 hlt1 htk hbx hbw hown h0 h1
  go_enter_d Try.func23, Try.ntmps23
  go_wp2_with fail
  go_region_held3 (fun W => W.cell? ⟨bx, 0, none⟩ = some (.pointer (some ⟨g, 0, none⟩)) ∧ W.cell? ⟨bw, 0, none⟩ = some (.int .i64 a) ∧ W.cell? ⟨bw, 1, none⟩ = some (.int .i64 b) ∧ W.cell? ⟨g, 1, none⟩ = some (.map (some mq)))
    (first | exact ⟨cb, c0, c1, hg1⟩ | exact ⟨q1, q2, q3, q4⟩ | exact ⟨r1, r2, r3, r4⟩)
    (first | (go_at_call 24; refine (clone_any _ _ _ Hsub.out Hlen.out).mono ?_
              rintro e w3 ⟨v, rfl, hr, hk, hf⟩
              have q1 := hf.cell (show w.drew.cell? ⟨bx, 0, none⟩ = _ from cb) (fun h => h)
              have q2 := hf.cell (show w.drew.cell? ⟨bw, 0, none⟩ = _ from c0) (fun h => h)
              have q3 := hf.cell (show w.drew.cell? ⟨bw, 1, none⟩ = _ from c1) (fun h => h)
              have q4 := hf.cell (show w.drew.cell? ⟨g, 1, none⟩ = _ from hg1) (fun h => h)
              have hup := wayKey.run_update 53 22 Try.underlying53 mq LQ kq a b v w3 (hf.heap (show w.drew.heap[mq]? = _ from Hn.out.qs) (fun h => h))
              obtain ⟨w5, hw5⟩ : ∃ w5, w5 = World.setObj w3 mq (.map (went (wput a b v kq LQ)) (if whas a b LQ = true then kq else kq + 1)) := ⟨_, rfl⟩
              rw [← hw5] at hup
              simp only [wkey] at hup
              have r1 : w5.cell? ⟨bx, 0, none⟩ = some (.pointer (some ⟨g, 0, none⟩)) := by rw [hw5, World.setObj_cell hbxq]; exact q1
              have r2 : w5.cell? ⟨bw, 0, none⟩ = some (.int .i64 a) := by rw [hw5, World.setObj_cell hbwq]; exact q2
              have r3 : w5.cell? ⟨bw, 1, none⟩ = some (.int .i64 b) := by rw [hw5, World.setObj_cell hbwq]; exact q3
              have r4 : w5.cell? ⟨g, 1, none⟩ = some (.map (some mq)) := by rw [hw5, World.setObj_cell Hn.out.ne1]; exact q4
              have Hr := Lib.hid hr
              have Hk := Lib.hid hk
              have Hf := Lib.hid hf
              have Hw5 := Lib.hid hw5
              clear hr hk hf hw5))
  go_wp2_with fail
  go_end0
  have f1 : Fr None' w w.drew := (Fr.refl None' w).drew
  have f3 : Fr None' w w3 := f1.trans0 Hf.out
  have hs5 : w5.heap.size = w3.heap.size := by rw [Hw5.out]; exact World.setObj_size _ _ _
  have hq3 : w3.heap[mq]? = some (.map (went LQ) kq) := f3.heap Hn.out.qs (fun h => h)
  refine ⟨rfl, ⟨mq, mc, _, _, LC, kc, Hn.out.putq a b v _ ?_ ?_ ?_ ?_⟩, ?_⟩
  · rw [Hw5.out]; exact World.setObj_same hq3
  · intro k hk hFk hne hnb
    rw [Hw5.out, World.setObj_other hne]
    exact f3.block k hk (fun h => h)
  · refine Hr.out.kept fun k hk => ?_
    rw [Hw5.out]
    refine World.setObj_other ?_
    have h1 := (Hk.out k hk).1
    have h2 : mq < w.heap.size := (Array.getElem?_eq_some_iff.1 Hn.out.qs).1
    intro e
    subst e
    exact absurd h2 (Nat.not_lt.2 h1)
  · intro k hk
    refine .inr ⟨(Hk.out k hk).1, ?_⟩
    rw [hs5]; exact (Hk.out k hk).2
  · rw [Hw5.out]
    exact (f3.mono (fun k _ h => h.elim)).setObj (.inl Hn.out.fq) _

/-- Deliver: what it returns. -/
def delText (N : Int) (q : Int → Int → List ByteArray) (a b : Int) (lost : Bool) : ByteArray := if knowsB N a b && !(q a b).isEmpty && !lost then (q a b).headD ⟨#[]⟩ else ⟨#[]⟩
def delOK (N : Int) (q : Int → Int → List ByteArray) (a b : Int) (lost : Bool) : Bool := knowsB N a b && !(q a b).isEmpty && !lost
def delQ (N : Int) (q : Int → Int → List ByteArray) (a b : Int) (lost again : Bool) : Int → Int → List ByteArray :=
  if knowsB N a b && !(q a b).isEmpty && (lost || !again) then qset q a b ((q a b).drop 1) else q

theorem knows_nil_fr (a b : Int) (w : World) : Calls Try.prog 22 #[.pointer none, .agg #[.int .i64 a, .int .i64 b]] w fun e w' => e = .returned (.bool false) ∧ Fr None' w w' :=
  (knows_nil a b w).mono fun _ _ ⟨he, hw⟩ => ⟨he, hw ▸ ((Fr.refl _ _).alloc _).alloc _⟩
theorem knows_fr' (N a b : Int) (g : Nat) (w : World) (hg : w.cell? ⟨g, 0, none⟩ = some (.int .i64 N)) : Calls Try.prog 22 #[.pointer (some ⟨g, 0, none⟩), .agg #[.int .i64 a, .int .i64 b]] w fun e w' => e = .returned (.bool (knowsB N a b)) ∧ Fr None' w w' :=
  knows_fr N a b g w hg
/-- The two boxes of Deliver. -/
theorem two_boxes (w : World) (p : Value) (a b : Int) : (((w.alloc (.cells #[p] 25)).alloc (.cells #[.int .i64 a, .int .i64 b] 58)).drew.cell? ⟨w.heap.size, 0, none⟩ = some p) ∧
    (((w.alloc (.cells #[p] 25)).alloc (.cells #[.int .i64 a, .int .i64 b] 58)).drew.cell? ⟨w.heap.size + 1, 0, none⟩ = some (.int .i64 a)) ∧
    (((w.alloc (.cells #[p] 25)).alloc (.cells #[.int .i64 a, .int .i64 b] 58)).drew.cell? ⟨w.heap.size + 1, 1, none⟩ = some (.int .i64 b)) := by
  refine ⟨?_, ?_, ?_⟩
  · simp
  · have := World.cell?_alloc_new (w := w.alloc (.cells #[p] 25)) #[.int .i64 a, .int .i64 b] 58 0
    simp at this ⊢
  · have := World.cell?_alloc_new (w := w.alloc (.cells #[p] 25)) #[.int .i64 a, .int .i64 b] 58 1
    simp at this ⊢

/-- Nothing to deliver: no such pair. -/
theorem deliver_nil (a b : Int) (lost again : Bool) (w : World) :
    Calls Try.prog 12 #[.pointer none, .int .i64 a, .int .i64 b, .bool lost, .bool again] w fun e w' => e = .returned (.tuple #[.string ⟨#[]⟩, .bool false]) ∧ Fr None' w w' := by
  have hmf : ∀ (fn : Fn) (first cap : Array Value) (w : World), (Instr.makeFunc fn first cap).run Try.prog w = .ok (.func fn first cap) w := fun _ _ _ _ => rfl
  obtain ⟨b1, b2, b3⟩ := two_boxes w (.pointer none) a b
  have Hw1 := Lib.hid ((((Fr.refl None' w).alloc (.cells #[.pointer none] 25)).alloc (.cells #[.int .i64 a, .int .i64 b] 58)).drew)
  go_enter_defers Try.func12, Try.ntmps12
  go_wp2_with fail
  generalize hw1 : (w.alloc (.cells #[.pointer none] 25)).alloc (.cells #[.int .i64 a, .int .i64 b] 58) = w1 at *
  clear hw1
  refine wp_region_quiet (C := fun W => Fr None' w1.drew W) (by kernel_rfl) (by kernel_rfl) (Fr.refl _ _) ?_
  simp only [List.toList_toArray]
  repeat (go_big_quiet_step ((intro hC
                              have q1 := Fr.cell hC b1 (fun h => h)
                              have q2 := Fr.cell hC b2 (fun h => h)
                              have q3 := Fr.cell hC b3 (fun h => h)
                              first
                                | (go_at_call 22; refine (knows_nil_fr a b _).mono ?_; rintro e w2 ⟨rfl, hf⟩; exact ⟨rfl, hC.trans0 hf⟩)
                                | (go_simp; with_reducible rfl))))
  refine wpQuiet_nil ?_
  intro w2 hf
  have Hf := Lib.hid hf
  clear hf
  go_wp2_with fail
  exact ⟨_, results_tmp2 rfl _ _ _, rfl, Hw1.out.trans0 Hf.out⟩

/-- Nothing to deliver: no such pair, or nothing waits. -/
theorem deliver_no {w : World} {F : Nat → Prop} {g : Nat} {N : Int} {q : Int → Int → List ByteArray} {c : Int → Int → Bool} (hn : NetIs w F g N q c) (a b : Int) (lost again : Bool) (h : knowsB N a b = false ∨ q a b = []) :
    Calls Try.prog 12 #[.pointer (some ⟨g, 0, none⟩), .int .i64 a, .int .i64 b, .bool lost, .bool again] w fun e w' => e = .returned (.tuple #[.string ⟨#[]⟩, .bool false]) ∧ Fr None' w w' := by
  have hmf : ∀ (fn : Fn) (first cap : Array Value) (w : World), (Instr.makeFunc fn first cap).run Try.prog w = .ok (.func fn first cap) w := fun _ _ _ _ => rfl
  obtain ⟨mq, mc, LQ, kq, LC, kc, hn⟩ := hn
  obtain ⟨b1, b2, b3⟩ := two_boxes w (.pointer (some ⟨g, 0, none⟩)) a b
  have hw1 := ((((Fr.refl None' w).alloc (.cells #[.pointer (some ⟨g, 0, none⟩)] 25)).alloc (.cells #[.int .i64 a, .int .i64 b] 58)).drew)
  have hn1 := hn.fr hw1 (fun _ _ h => h)
  obtain ⟨g0, g1, _, _⟩ := hn1.cells
  have Hw1 := Lib.hid hw1
  have Hn1 := Lib.hid hn1
  obtain ⟨A, n, cap, hv, hl⟩ := (hn.row a b).form
  have Hv := Lib.hid hv
  by_cases hk : knowsB N a b = true
  · have hq : q a b = [] := by rcases h with h | h; rw [hk] at h; cases h; exact h
    rw [hq] at hl
    obtain rfl : n = 0 := by simp [strs] at hl; omega
    have Hk := Lib.hid hk
    clear hk h hq hl hv hn hw1 hn1
    go_enter_defers Try.func12, Try.ntmps12
    go_wp2_with fail
    generalize hw1 : (w.alloc (.cells #[.pointer (some ⟨g, 0, none⟩)] 25)).alloc (.cells #[.int .i64 a, .int .i64 b] 58) = w1 at *
    clear hw1
    go_region_held3 (fun W => W.cell? ⟨w.heap.size, 0, none⟩ = some (.pointer (some ⟨g, 0, none⟩)) ∧ W.cell? ⟨w.heap.size + 1, 0, none⟩ = some (.int .i64 a) ∧ W.cell? ⟨w.heap.size + 1, 1, none⟩ = some (.int .i64 b) ∧ W.cell? ⟨g, 1, none⟩ = some (.map (some mq)))
      (first | exact ⟨b1, b2, b3, g1⟩ | exact ⟨q1, q2, q3, q4⟩)
      (first | (go_at_call 22; refine (knows_fr' N a b g _ g0).mono ?_
                rw [Hk.out]
                rintro e w2 ⟨rfl, hf⟩
                have q1 := hf.cell b1 (fun h => h)
                have q2 := hf.cell b2 (fun h => h)
                have q3 := hf.cell b3 (fun h => h)
                have q4 := hf.cell g1 (fun h => h)
                have hlk := (Hn1.out.fr hf (fun _ _ h => h)).look a b w2 rfl
                rw [Hv.out] at hlk
                have Hf := Lib.hid hf
                clear hf))
    go_wp2_with fail
    exact ⟨_, results_tmp2 rfl _ _ _, rfl, Hw1.out.trans0 Hf.out⟩
  · have hk' : knowsB N a b = false := by simpa using hk
    have Hk := Lib.hid hk'
    clear hk hk' h hl hv hn hw1 hn1
    go_enter_defers Try.func12, Try.ntmps12
    go_wp2_with fail
    generalize hw1 : (w.alloc (.cells #[.pointer (some ⟨g, 0, none⟩)] 25)).alloc (.cells #[.int .i64 a, .int .i64 b] 58) = w1 at *
    clear hw1
    refine wp_region_quiet (C := fun W => Fr None' w1.drew W) (by kernel_rfl) (by kernel_rfl) (Fr.refl _ _) ?_
    simp only [List.toList_toArray]
    repeat (go_big_quiet_step ((intro hC
                                have q1 := Fr.cell hC b1 (fun h => h)
                                have q2 := Fr.cell hC b2 (fun h => h)
                                have q3 := Fr.cell hC b3 (fun h => h)
                                have q4 := Fr.cell hC g0 (fun h => h)
                                first
                                  | (go_at_call 22; refine (knows_fr' N a b g _ q4).mono ?_; rw [Hk.out]; rintro e w2 ⟨rfl, hf⟩; exact ⟨rfl, hC.trans0 hf⟩)
                                  | (go_simp; with_reducible rfl))))
    refine wpQuiet_nil ?_
    intro w2 hf
    have Hf := Lib.hid hf
    clear hf
    go_wp2_with fail
    exact ⟨_, results_tmp2 rfl _ _ _, rfl, Hw1.out.trans0 Hf.out⟩

/-- Delivered, and it stays. -/
theorem deliver_again {w : World} {F : Nat → Prop} {g : Nat} {N : Int} {q : Int → Int → List ByteArray} {c : Int → Int → Bool} (hn : NetIs w F g N q c) (a b : Int) (hk : knowsB N a b = true) (x : ByteArray) (r : List ByteArray) (hq : q a b = x :: r) :
    Calls Try.prog 12 #[.pointer (some ⟨g, 0, none⟩), .int .i64 a, .int .i64 b, .bool false, .bool true] w fun e w' => e = .returned (.tuple #[.string x, .bool true]) ∧ Fr None' w w' := by
  have hmf : ∀ (fn : Fn) (first cap : Array Value) (w : World), (Instr.makeFunc fn first cap).run Try.prog w = .ok (.func fn first cap) w := fun _ _ _ _ => rfl
  obtain ⟨mq, mc, LQ, kq, LC, kc, hn⟩ := hn
  obtain ⟨b1, b2, b3⟩ := two_boxes w (.pointer (some ⟨g, 0, none⟩)) a b
  have hw1 := ((((Fr.refl None' w).alloc (.cells #[.pointer (some ⟨g, 0, none⟩)] 25)).alloc (.cells #[.int .i64 a, .int .i64 b] 58)).drew)
  have hn1 := hn.fr hw1 (fun _ _ h => h)
  obtain ⟨g0, g1, _, _⟩ := hn1.cells
  have Hw1 := Lib.hid hw1
  have Hn1 := Lib.hid hn1
  obtain ⟨A, n, cap, hv, hl⟩ := (hn.row a b).form
  have hrow := hn.row a b
  have Hv := Lib.hid hv
  rw [hq] at hl hrow
  have hn0 : 0 < n := by simp [strs] at hl; omega
  have hn0' : ((n : Int) == 0) = false := by rw [beq_eq_false_iff_ne]; omega
  rw [hv] at hrow
  obtain ⟨gb, off, rfl, _, hc⟩ := hrow.at_ hn0
  have hx := hc 0 (by decide)
  simp only [Nat.zero_mul, Nat.zero_add, Nat.add_zero] at hx
  have hx' : w.cell? ⟨gb, off, none⟩ = some (.string x) := by rw [hx]; rfl
  have hxx := hw1.cell hx' (fun h => h)
  have Hk := Lib.hid hk
  clear hk hl hv hn hw1 hn1 hc hx hx' hrow hq
  go_enter_defers Try.func12, Try.ntmps12
  go_wp2_with fail
  generalize hw1 : (w.alloc (.cells #[.pointer (some ⟨g, 0, none⟩)] 25)).alloc (.cells #[.int .i64 a, .int .i64 b] 58) = w1 at *
  clear hw1
  go_region_held3 (fun W => W.cell? ⟨w.heap.size, 0, none⟩ = some (.pointer (some ⟨g, 0, none⟩)) ∧ W.cell? ⟨w.heap.size + 1, 0, none⟩ = some (.int .i64 a) ∧ W.cell? ⟨w.heap.size + 1, 1, none⟩ = some (.int .i64 b) ∧ W.cell? ⟨g, 1, none⟩ = some (.map (some mq)))
    (first | exact ⟨b1, b2, b3, g1⟩ | exact ⟨q1, q2, q3, q4⟩)
    (first | (go_at_call 22; refine (knows_fr' N a b g _ g0).mono ?_
              rw [Hk.out]
              rintro e w2 ⟨rfl, hf⟩
              have q1 := hf.cell b1 (fun h => h)
              have q2 := hf.cell b2 (fun h => h)
              have q3 := hf.cell b3 (fun h => h)
              have q4 := hf.cell g1 (fun h => h)
              have q5 := hf.cell hxx (fun h => h)
              have hlk := fun n => (Hn1.out.fr hf (fun _ _ h => h)).look a b (w2.drewN n) rfl
              have hlk0 := (Hn1.out.fr hf (fun _ _ h => h)).look a b w2 rfl
              rw [Hv.out] at hlk
              rw [Hv.out] at hlk0
              have Hf := Lib.hid hf
              clear hf))
  go_wp2_with fail
  go_quiet (fail)
  go_wp2_with fail
  exact ⟨_, results_tmp2 rfl _ _ _, rfl, (Hw1.out.trans0 Hf.out).drewN _⟩

/-- Lost: the oldest text goes. -/
theorem deliver_lost {w : World} {F : Nat → Prop} {g : Nat} {N : Int} {q : Int → Int → List ByteArray} {c : Int → Int → Bool} (hn : NetIs w F g N q c) (hF : ∀ k, w.heap.size ≤ k → ¬ F k) (a b : Int) (hk : knowsB N a b = true) (x : ByteArray) (r : List ByteArray) (hq : q a b = x :: r)
    (hb : (q a b).length ≤ 1000000) (again : Bool) :
    Calls Try.prog 12 #[.pointer (some ⟨g, 0, none⟩), .int .i64 a, .int .i64 b, .bool true, .bool again] w fun e w' => e = .returned (.tuple #[.string ⟨#[]⟩, .bool false]) ∧ NetIs w' (Ext F w w') g N (qset q a b r) c ∧ Fr F w w' := by
  have hmf : ∀ (fn : Fn) (first cap : Array Value) (w : World), (Instr.makeFunc fn first cap).run Try.prog w = .ok (.func fn first cap) w := fun _ _ _ _ => rfl
  have hn0 := hn
  obtain ⟨mq, mc, LQ, kq, LC, kc, hn⟩ := hn
  obtain ⟨b1, b2, b3⟩ := two_boxes w (.pointer (some ⟨g, 0, none⟩)) a b
  have hw1 := ((((Fr.refl None' w).alloc (.cells #[.pointer (some ⟨g, 0, none⟩)] 25)).alloc (.cells #[.int .i64 a, .int .i64 b] 58)).drew)
  have hn1 := hn.fr hw1 (fun _ _ h => h)
  have hnn1 := hn0.fr hw1 (fun _ _ h => h)
  obtain ⟨g0, g1, _, _⟩ := hn1.cells
  have Hw1 := Lib.hid hw1
  have Hn1 := Lib.hid hn1
  have Hnn1 := Lib.hid hnn1
  obtain ⟨A, n, cap, hv, hl⟩ := (hn.row a b).form
  have hrow := hn.row a b
  have Hv := Lib.hid hv
  have Hq := Lib.hid hq
  rw [hq] at hl hrow
  have hn0 : 0 < n := by simp [strs] at hl; omega
  have hn0' : ((n : Int) == 0) = false := by rw [beq_eq_false_iff_ne]; omega
  rw [hv] at hrow
  obtain ⟨gb, off, rfl, _, hc⟩ := hrow.at_ hn0
  have hx := hc 0 (by decide)
  simp only [Nat.zero_mul, Nat.zero_add, Nat.add_zero] at hx
  have hx' : w.cell? ⟨gb, off, none⟩ = some (.string x) := by rw [hx]; rfl
  have hxx := hw1.cell hx' (fun h => h)
  have Hk := Lib.hid hk
  have Hb := Lib.hid hb
  have HF := Lib.hid hF
  clear hk hl hv hn hw1 hn1 hnn1 hc hx hx' hrow hq hb hF
  go_enter_defers Try.func12, Try.ntmps12
  go_wp2_with fail
  generalize hw1 : (w.alloc (.cells #[.pointer (some ⟨g, 0, none⟩)] 25)).alloc (.cells #[.int .i64 a, .int .i64 b] 58) = w1 at *
  clear hw1
  go_region_held3 (fun W => W.cell? ⟨w.heap.size, 0, none⟩ = some (.pointer (some ⟨g, 0, none⟩)) ∧ W.cell? ⟨w.heap.size + 1, 0, none⟩ = some (.int .i64 a) ∧ W.cell? ⟨w.heap.size + 1, 1, none⟩ = some (.int .i64 b) ∧ W.cell? ⟨g, 1, none⟩ = some (.map (some mq)))
    (first | exact ⟨b1, b2, b3, g1⟩ | exact ⟨q1, q2, q3, q4⟩)
    (first | (go_at_call 22; refine (knows_fr' N a b g _ g0).mono ?_
              rw [Hk.out]
              rintro e w2 ⟨rfl, hf⟩
              have q1 := hf.cell b1 (fun h => h)
              have q2 := hf.cell b2 (fun h => h)
              have q3 := hf.cell b3 (fun h => h)
              have q4 := hf.cell g1 (fun h => h)
              have q5 := hf.cell hxx (fun h => h)
              have hlk := fun n => (Hn1.out.fr hf (fun _ _ h => h)).look a b (w2.drewN n) rfl
              have hlk0 := (Hn1.out.fr hf (fun _ _ h => h)).look a b w2 rfl
              rw [Hv.out] at hlk
              rw [Hv.out] at hlk0
              have Hf := Lib.hid hf
              clear hf))
  go_wp2_with fail
  refine leaves_cons (f := 23) (args := #[.pointer (some ⟨w.heap.size, 0, none⟩), .pointer (some ⟨w.heap.size + 1, 0, none⟩)]) (by simp) (by simp [go_sem]) ?_
  have hf := Hw1.out.trans0 Hf.out
  have hsz1 : w.heap.size + 1 < w1.drew.heap.size := World.block_lt_of_cell? _ _ b2
  refine (take_d (Hnn1.out.fr Hf.out (fun _ _ h => h)) a b w.heap.size (w.heap.size + 1) q1 q2 q3 (HF.out _ (Nat.le_refl _)) (HF.out _ (Nat.le_succ _)) (by rw [Hq.out]; simp) Hb.out .returning).mono ?_
  rintro e u' w3 ⟨rfl, rfl, hn3, hf3⟩
  refine ⟨_, results_tmp2 rfl _ _ _, rfl, ?_, ?_⟩
  · rw [Hq.out] at hn3
    refine hn3.mono fun k hk => ?_
    rcases hk with hk | hk
    · exact .inl hk
    · exact .inr ⟨Nat.le_trans hf.size hk.1, hk.2⟩
  · exact (hf.mono (fun k _ h => h.elim)).trans hf3 (fun k hk h => h)

/-- Delivered: the oldest text goes. -/
theorem deliver_take {w : World} {F : Nat → Prop} {g : Nat} {N : Int} {q : Int → Int → List ByteArray} {c : Int → Int → Bool} (hn : NetIs w F g N q c) (hF : ∀ k, w.heap.size ≤ k → ¬ F k) (a b : Int) (hk : knowsB N a b = true) (x : ByteArray) (r : List ByteArray) (hq : q a b = x :: r)
    (hb : (q a b).length ≤ 1000000) :
    Calls Try.prog 12 #[.pointer (some ⟨g, 0, none⟩), .int .i64 a, .int .i64 b, .bool false, .bool false] w fun e w' => e = .returned (.tuple #[.string x, .bool true]) ∧ NetIs w' (Ext F w w') g N (qset q a b r) c ∧ Fr F w w' := by
  have hmf : ∀ (fn : Fn) (first cap : Array Value) (w : World), (Instr.makeFunc fn first cap).run Try.prog w = .ok (.func fn first cap) w := fun _ _ _ _ => rfl
  have hn0 := hn
  obtain ⟨mq, mc, LQ, kq, LC, kc, hn⟩ := hn
  obtain ⟨b1, b2, b3⟩ := two_boxes w (.pointer (some ⟨g, 0, none⟩)) a b
  have hw1 := ((((Fr.refl None' w).alloc (.cells #[.pointer (some ⟨g, 0, none⟩)] 25)).alloc (.cells #[.int .i64 a, .int .i64 b] 58)).drew)
  have hn1 := hn.fr hw1 (fun _ _ h => h)
  have hnn1 := hn0.fr hw1 (fun _ _ h => h)
  obtain ⟨g0, g1, _, _⟩ := hn1.cells
  have Hw1 := Lib.hid hw1
  have Hn1 := Lib.hid hn1
  have Hnn1 := Lib.hid hnn1
  obtain ⟨A, n, cap, hv, hl⟩ := (hn.row a b).form
  have hrow := hn.row a b
  have Hv := Lib.hid hv
  have Hq := Lib.hid hq
  rw [hq] at hl hrow
  have hn0 : 0 < n := by simp [strs] at hl; omega
  have hn0' : ((n : Int) == 0) = false := by rw [beq_eq_false_iff_ne]; omega
  rw [hv] at hrow
  obtain ⟨gb, off, rfl, _, hc⟩ := hrow.at_ hn0
  have hx := hc 0 (by decide)
  simp only [Nat.zero_mul, Nat.zero_add, Nat.add_zero] at hx
  have hx' : w.cell? ⟨gb, off, none⟩ = some (.string x) := by rw [hx]; rfl
  have hxx := hw1.cell hx' (fun h => h)
  have Hk := Lib.hid hk
  have Hb := Lib.hid hb
  have HF := Lib.hid hF
  clear hk hl hv hn hw1 hn1 hnn1 hc hx hx' hrow hq hb hF
  go_enter_defers Try.func12, Try.ntmps12
  go_wp2_with fail
  generalize hw1 : (w.alloc (.cells #[.pointer (some ⟨g, 0, none⟩)] 25)).alloc (.cells #[.int .i64 a, .int .i64 b] 58) = w1 at *
  clear hw1
  go_region_held3 (fun W => W.cell? ⟨w.heap.size, 0, none⟩ = some (.pointer (some ⟨g, 0, none⟩)) ∧ W.cell? ⟨w.heap.size + 1, 0, none⟩ = some (.int .i64 a) ∧ W.cell? ⟨w.heap.size + 1, 1, none⟩ = some (.int .i64 b) ∧ W.cell? ⟨g, 1, none⟩ = some (.map (some mq)))
    (first | exact ⟨b1, b2, b3, g1⟩ | exact ⟨q1, q2, q3, q4⟩)
    (first | (go_at_call 22; refine (knows_fr' N a b g _ g0).mono ?_
              rw [Hk.out]
              rintro e w2 ⟨rfl, hf⟩
              have q1 := hf.cell b1 (fun h => h)
              have q2 := hf.cell b2 (fun h => h)
              have q3 := hf.cell b3 (fun h => h)
              have q4 := hf.cell g1 (fun h => h)
              have q5 := hf.cell hxx (fun h => h)
              have hlk := fun n => (Hn1.out.fr hf (fun _ _ h => h)).look a b (w2.drewN n) rfl
              have hlk0 := (Hn1.out.fr hf (fun _ _ h => h)).look a b w2 rfl
              rw [Hv.out] at hlk
              rw [Hv.out] at hlk0
              have Hf := Lib.hid hf
              clear hf))
  go_wp2_with fail
  go_quiet (fail)
  go_wp2_with fail
  refine leaves_cons (f := 23) (args := #[.pointer (some ⟨w.heap.size, 0, none⟩), .pointer (some ⟨w.heap.size + 1, 0, none⟩)]) (by simp) (by simp [go_sem]) ?_
  have hf := (Hw1.out.trans0 Hf.out).drewN nq
  have hsz1 : w.heap.size + 1 < w1.drew.heap.size := World.block_lt_of_cell? _ _ b2
  refine (take_d (Hnn1.out.fr (Hf.out.drewN nq) (fun _ _ h => h)) a b w.heap.size (w.heap.size + 1) q1 q2 q3 (HF.out _ (Nat.le_refl _)) (HF.out _ (Nat.le_succ _)) (by rw [Hq.out]; simp) Hb.out .returning).mono ?_
  rintro e u' w3 ⟨rfl, rfl, hn3, hf3⟩
  refine ⟨_, results_tmp2 rfl _ _ _, rfl, ?_, ?_⟩
  · rw [Hq.out] at hn3
    refine hn3.mono fun k hk => ?_
    rcases hk with hk | hk
    · exact .inl hk
    · exact .inr ⟨Nat.le_trans hf.size hk.1, hk.2⟩
  · exact (hf.mono (fun k _ h => h.elim)).trans hf3 (fun k hk h => h)

end Go.Proofs.Ytdgcimjpggjnjaa

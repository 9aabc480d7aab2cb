/- Package net: Cut, Heal. -/
import Derived.Test.YtdgcimjpggjnjaaNdel
set_option linter.unusedVariables false
set_option linter.unusedSimpArgs false
namespace Go.Proofs.Ytdgcimjpggjnjaa
open Go.RowKit

/-- The lines that are cut with another value at a pair. -/
def cset (c : Int → Int → Bool) (a b : Int) (v : Bool) (x y : Int) : Bool := if x = a ∧ y = b then v else c x y
theorem ne_or {a b x y : Int} (h : ¬ (x = a ∧ y = b)) : x ≠ a ∨ y ≠ b := by
  by_cases hx : x = a
  · exact .inr (fun hy => h ⟨hx, hy⟩)
  · exact .inl hx

theorem NetAt.putc {w w' : World} {F : Nat → Prop} {g : Nat} {N : Int} {q : Int → Int → List ByteArray} {c : Int → Int → Bool} {mq mc : Nat} {LQ : List WE} {kq : Nat} {LC : List WE} {kc : Nat}
    (h : NetAt w F g N q c mq mc LQ kq LC kc) (a b : Int) (v : Bool) (hm : w'.heap[mc]? = some (.map (went (wput a b (.bool v) kc LC)) (if whas a b LC = true then kc else kc + 1)))
    (hk : ∀ k, k < w.heap.size → F k → k ≠ mc → w'.heap[k]? = w.heap[k]?) :
    NetAt w' F g N q (cset c a b v) mq mc LQ kq (wput a b (.bool v) kc LC) (if whas a b LC = true then kc else kc + 1) where
  obj := by rw [hk g (Array.getElem?_eq_some_iff.1 h.obj).1 h.fg h.ne2]; exact h.obj
  qs := by rw [hk mq (Array.getElem?_eq_some_iff.1 h.qs).1 h.fq h.ne3]; exact h.qs
  cs := hm
  ok := h.ok
  ne1 := h.ne1
  ne2 := h.ne2
  ne3 := h.ne3
  fg := h.fg
  fq := h.fq
  fc := h.fc
  row := fun x y => (h.row x y).kept fun k hb => hk k ((h.row x y).lt hb) (h.own x y k hb).1 (h.own x y k hb).2.2.2
  own := h.own
  apart := h.apart
  cut := fun x y => by
    by_cases hxy : x = a ∧ y = b
    · obtain ⟨rfl, rfl⟩ := hxy
      rw [wval_wput_same]; simp [cset]
    · rw [wval_wput_other a b x y _ _ kc (ne_or hxy), h.cut x y]; simp [cset, hxy]

/-- mapUpdate on the lines that are cut, in a world that has grown. -/
theorem NetAt.upc {w : World} {F : Nat → Prop} {g : Nat} {N : Int} {q : Int → Int → List ByteArray} {c : Int → Int → Bool} {mq mc : Nat} {LQ : List WE} {kq : Nat} {LC : List WE} {kc : Nat}
    (h : NetAt w F g N q c mq mc LQ kq LC kc) (a b : Int) (v : Bool) : ∃ w' LC' kc', (Instr.mapUpdate 54 (.map (some mc)) (.agg #[.int .i64 a, .int .i64 b]) (.bool v)).run Try.prog w = .ok () w' ∧
      NetAt w' F g N q (cset c a b v) mq mc LQ kq LC' kc' ∧ Fr F w w' ∧ (∀ k, k ≠ mc → w'.heap[k]? = w.heap[k]?) := by
  refine ⟨World.setObj w mc (.map (went (wput a b (.bool v) kc LC)) (if whas a b LC = true then kc else kc + 1)), _, _, wayKey.run_update 54 4 Try.underlying54 mc LC kc a b (.bool v) w h.cs, h.putc a b v (World.setObj_same h.cs) (fun k _ _ hne => World.setObj_other hne), (Fr.refl F w).setObj (.inl h.fc) _, fun k hne => World.setObj_other hne⟩
/-- mapUpdate of a queue with nil. -/
theorem NetAt.upq {w : World} {F : Nat → Prop} {g : Nat} {N : Int} {q : Int → Int → List ByteArray} {c : Int → Int → Bool} {mq mc : Nat} {LQ : List WE} {kq : Nat} {LC : List WE} {kc : Nat}
    (h : NetAt w F g N q c mq mc LQ kq LC kc) (a b : Int) : ∃ w' LQ' kq', (Instr.mapUpdate 53 (.map (some mq)) (.agg #[.int .i64 a, .int .i64 b]) (.slice none 0 0)).run Try.prog w = .ok () w' ∧
      NetAt w' F g N (qset q a b []) c mq mc LQ' kq' LC kc ∧ Fr F w w' ∧ (∀ k, k ≠ mq → w'.heap[k]? = w.heap[k]?) := by
  refine ⟨World.setObj w mq (.map (went (wput a b (.slice none 0 0) kq LQ)) (if whas a b LQ = true then kq else kq + 1)), wput a b (.slice none 0 0) kq LQ, (if whas a b LQ = true then kq else kq + 1), wayKey.run_update 53 22 Try.underlying53 mq LQ kq a b (.slice none 0 0) w h.qs, ?_, (Fr.refl F w).setObj (.inl h.fq) _, fun k hne => World.setObj_other hne⟩
  have := h.putq (w' := World.setObj w mq (.map (went (wput a b (.slice none 0 0) kq LQ)) (if whas a b LQ = true then kq else kq + 1))) a b (.slice none 0 0) [] (World.setObj_same h.qs) (fun k _ _ hne _ => World.setObj_other hne) (Row.nil _ _ _) (by simp [rowBlk])
  refine this.kept (fun _ _ _ => rfl) (fun k hk => ?_)
  rcases hk with hk | hk
  · exact hk
  · rw [World.setObj_size] at hk; omega

theorem idx0 (a b c d : Int) (w : World) : (Instr.index 73 (.agg #[.int .i64 a, .int .i64 b, .int .i64 c, .int .i64 d]) (.int .i64 0)).run Try.prog w = .ok (.agg #[.int .i64 a, .int .i64 b]) w := by kernel_rfl
theorem idx1 (a b c d : Int) (w : World) : (Instr.index 73 (.agg #[.int .i64 a, .int .i64 b, .int .i64 c, .int .i64 d]) (.int .i64 1)).run Try.prog w = .ok (.agg #[.int .i64 c, .int .i64 d]) w := by kernel_rfl

theorem turn_nil (a b : Int) (v : Bool) (w : World) : Calls Try.prog 31 #[.pointer none, .int .i64 a, .int .i64 b, .bool v] w fun e w' => e = .returned (.int .i64 1) ∧ Fr None' w w' := by
  go_enter Try.func31, Try.ntmps31
  go_wp2_with fail
  refine (knows_nil_fr a b _).mono ?_
  rintro e w' ⟨rfl, hf⟩
  have Hf := Lib.hid hf
  clear hf
  go_wp2_with fail
  go_ret
  exact ⟨rfl, Hf.out⟩
theorem turn_arg {w : World} {F : Nat → Prop} {g : Nat} {N : Int} {q : Int → Int → List ByteArray} {c : Int → Int → Bool} (hn : NetIs w F g N q c) (a b : Int) (v : Bool) (hk : knowsB N a b = false) :
    Calls Try.prog 31 #[.pointer (some ⟨g, 0, none⟩), .int .i64 a, .int .i64 b, .bool v] w fun e w' => e = .returned (.int .i64 1) ∧ Fr None' w w' := by
  obtain ⟨mq, mc, LQ, kq, LC, kc, hn⟩ := hn
  obtain ⟨g0, _, _, _⟩ := hn.cells
  have Hk := Lib.hid hk
  clear hk hn
  go_enter Try.func31, Try.ntmps31
  go_wp2_with fail
  refine (knows_fr' N a b g _ g0).mono ?_
  rw [Hk.out]
  rintro e w' ⟨rfl, hf⟩
  have Hf := Lib.hid hf
  clear hf
  go_wp2_with fail
  go_ret
  exact ⟨rfl, Hf.out⟩
theorem turn_state {w : World} {F : Nat → Prop} {g : Nat} {N : Int} {q : Int → Int → List ByteArray} {c : Int → Int → Bool} (hn : NetIs w F g N q c) (a b : Int) (v : Bool) (hk : knowsB N a b = true) (hc : c a b = v) :
    Calls Try.prog 31 #[.pointer (some ⟨g, 0, none⟩), .int .i64 a, .int .i64 b, .bool v] w fun e w' => e = .returned (.int .i64 12) ∧ Fr None' w w' := by
  obtain ⟨mq, mc, LQ, kq, LC, kc, hn⟩ := hn
  obtain ⟨g0, _, g2, _⟩ := hn.cells
  have Hk := Lib.hid hk
  have Hn := Lib.hid hn
  have Hc := Lib.hid hc
  have hvv : (v == v) = true := by simp
  clear hk hn hc
  go_enter Try.func31, Try.ntmps31
  go_wp2_with fail
  refine (knows_fr' N a b g _ g0).mono ?_
  rw [Hk.out]
  rintro e w1 ⟨rfl, hf⟩
  have g2' := hf.cell g2 (fun h => h)
  have hlc := (Hn.out.fr hf (fun _ _ h => h)).lookc a b w1 rfl
  rw [Hc.out] at hlc
  have Hf := Lib.hid hf
  clear hf
  go_wp2_with fail
  go_ret
  exact ⟨rfl, Hf.out⟩

theorem turn_heal {w : World} {F : Nat → Prop} {g : Nat} {N : Int} {q : Int → Int → List ByteArray} {c : Int → Int → Bool} (hn : NetIs w F g N q c) (hF : ∀ k, w.heap.size ≤ k → ¬ F k) (a b : Int) (hk : knowsB N a b = true) (hc : c a b = true) :
    Calls Try.prog 31 #[.pointer (some ⟨g, 0, none⟩), .int .i64 a, .int .i64 b, .bool false] w fun e w' => e = .returned (.int .i64 0) ∧ NetIs w' (Ext F w w') g N q (cset (cset c a b false) b a false) ∧ Fr F w w' := by
  obtain ⟨mq, mc, LQ, kq, LC, kc, hn⟩ := hn
  obtain ⟨g0, _, g2, _⟩ := hn.cells
  have Hk := Lib.hid hk
  have Hn := Lib.hid hn
  have Hc := Lib.hid hc
  have HF := Lib.hid hF
  have hi0 := idx0 a b b a
  have hi1 := idx1 a b b a
  clear hk hn hc hF
  go_enter Try.func31, Try.ntmps31
  go_wp2_with fail
  refine (knows_fr' N a b g _ g0).mono ?_
  rw [Hk.out]
  rintro e w1 ⟨rfl, hf⟩
  have hn1 := Hn.out.fr hf (fun _ _ h => h)
  have g2' := hf.cell g2 (fun h => h)
  have hlc := hn1.lookc a b w1 rfl
  rw [Hc.out] at hlc
  have Hf := Lib.hid hf
  have Hn1 := Lib.hid hn1
  clear hf hn1
  go_wp2_with fail
  refine wp_loop_rounds 3 ?_
  rw [rounds_succ]
  go_wp2_with fail
  have Ff := Lib.hid (Hf.out.mono (G := F) (fun k _ h => h.elim))
  -- round 1: the line
  have fa1 := (Ff.out.alloc (.cells #[.int .i64 a, .int .i64 b] 58)).drew
  have na1 := Hn1.out.fr (((Fr.refl None' w1).alloc (.cells #[.int .i64 a, .int .i64 b] 58)).drew) (fun _ _ h => h)
  obtain ⟨_, _, ga1, _⟩ := na1.cells
  have ba1 : (w1.alloc (.cells #[.int .i64 a, .int .i64 b] 58)).drew.cell? ⟨w1.heap.size, 0, none⟩ = some (.int .i64 a) := World.cell?_alloc_new _ _ _ _
  have bb1 : (w1.alloc (.cells #[.int .i64 a, .int .i64 b] 58)).drew.cell? ⟨w1.heap.size, 1, none⟩ = some (.int .i64 b) := World.cell?_alloc_new _ _ _ _
  obtain ⟨w12, LC1, kc1, hup1, n12, f12, h12⟩ := na1.upc a b false
  have sz1 : w1.heap.size < (w1.alloc (.cells #[.int .i64 a, .int .i64 b] 58)).drew.heap.size := World.block_lt_of_cell? _ _ ba1
  have nmc1 : w1.heap.size ≠ mc := by have := (Array.getElem?_eq_some_iff.1 Hn1.out.cs).1; omega
  have nmq1 : w1.heap.size ≠ mq := by have := (Array.getElem?_eq_some_iff.1 Hn1.out.qs).1; omega
  have bc1 := (World.cell?_of_block (h12 w1.heap.size nmc1) (a := ⟨w1.heap.size, 0, none⟩)).trans ba1
  have bd1 := (World.cell?_of_block (h12 w1.heap.size nmc1) (a := ⟨w1.heap.size, 1, none⟩)).trans bb1
  obtain ⟨_, gd1, gc1, _⟩ := n12.cells
  have Fa1 := Lib.hid (fa1.trans f12 (fun _ _ h => h))
  have Na1 := Lib.hid n12
  clear fa1 na1 n12 f12 h12
  generalize hwa : w1.alloc (.cells #[.int .i64 a, .int .i64 b] 58) = wa1 at *
  clear hwa
  go_still_tail 6, (by kernel_rfl)
  change wpList _ _ _ _ _ wa1.drew
  go_wp2_with fail
  rw [rounds_succ]
  go_wp2_with fail
  -- round 2: the line
  have fa2 := (Fa1.out.alloc (.cells #[.int .i64 b, .int .i64 a] 58)).drew
  have na2 := Na1.out.fr (((Fr.refl None' w12).alloc (.cells #[.int .i64 b, .int .i64 a] 58)).drew) (fun _ _ h => h)
  obtain ⟨_, _, ga2, _⟩ := na2.cells
  have ba2 : (w12.alloc (.cells #[.int .i64 b, .int .i64 a] 58)).drew.cell? ⟨w12.heap.size, 0, none⟩ = some (.int .i64 b) := World.cell?_alloc_new _ _ _ _
  have bb2 : (w12.alloc (.cells #[.int .i64 b, .int .i64 a] 58)).drew.cell? ⟨w12.heap.size, 1, none⟩ = some (.int .i64 a) := World.cell?_alloc_new _ _ _ _
  obtain ⟨w22, LC2, kc2, hup2, n22, f22, h22⟩ := na2.upc b a false
  have sz2 : w12.heap.size < (w12.alloc (.cells #[.int .i64 b, .int .i64 a] 58)).drew.heap.size := World.block_lt_of_cell? _ _ ba2
  have nmc2 : w12.heap.size ≠ mc := by have := (Array.getElem?_eq_some_iff.1 Na1.out.cs).1; omega
  have nmq2 : w12.heap.size ≠ mq := by have := (Array.getElem?_eq_some_iff.1 Na1.out.qs).1; omega
  have bc2 := (World.cell?_of_block (h22 w12.heap.size nmc2) (a := ⟨w12.heap.size, 0, none⟩)).trans ba2
  have bd2 := (World.cell?_of_block (h22 w12.heap.size nmc2) (a := ⟨w12.heap.size, 1, none⟩)).trans bb2
  obtain ⟨_, gd2, gc2, _⟩ := n22.cells
  have Fa2 := Lib.hid (fa2.trans f22 (fun _ _ h => h))
  have Na2 := Lib.hid n22
  clear fa2 na2 n22 f22 h22
  generalize hwa : w12.alloc (.cells #[.int .i64 b, .int .i64 a] 58) = wa2 at *
  clear hwa
  go_still_tail 6, (by kernel_rfl)
  change wpList _ _ _ _ _ wa2.drew
  go_wp2_with fail
  rw [rounds_succ]
  go_wp2_with fail
  go_ret
  refine ⟨rfl, ⟨_, _, _, _, _, _, Na2.out.kept (fun _ _ _ => rfl) (fun k hk => .inl hk)⟩, Fa2.out⟩

theorem turn_cut {w : World} {F : Nat → Prop} {g : Nat} {N : Int} {q : Int → Int → List ByteArray} {c : Int → Int → Bool} (hn : NetIs w F g N q c) (hF : ∀ k, w.heap.size ≤ k → ¬ F k) (a b : Int) (hk : knowsB N a b = true) (hc : c a b = false) :
    Calls Try.prog 31 #[.pointer (some ⟨g, 0, none⟩), .int .i64 a, .int .i64 b, .bool true] w fun e w' => e = .returned (.int .i64 0) ∧ NetIs w' (Ext F w w') g N (qset (qset q a b []) b a []) (cset (cset c a b true) b a true) ∧ Fr F w w' := by
  obtain ⟨mq, mc, LQ, kq, LC, kc, hn⟩ := hn
  obtain ⟨g0, _, g2, _⟩ := hn.cells
  have Hk := Lib.hid hk
  have Hn := Lib.hid hn
  have Hc := Lib.hid hc
  have HF := Lib.hid hF
  have hi0 := idx0 a b b a
  have hi1 := idx1 a b b a
  clear hk hn hc hF
  go_enter Try.func31, Try.ntmps31
  go_wp2_with fail
  refine (knows_fr' N a b g _ g0).mono ?_
  rw [Hk.out]
  rintro e w1 ⟨rfl, hf⟩
  have hn1 := Hn.out.fr hf (fun _ _ h => h)
  have g2' := hf.cell g2 (fun h => h)
  have hlc := hn1.lookc a b w1 rfl
  rw [Hc.out] at hlc
  have Hf := Lib.hid hf
  have Hn1 := Lib.hid hn1
  clear hf hn1
  go_wp2_with fail
  refine wp_loop_rounds 3 ?_
  rw [rounds_succ]
  go_wp2_with fail
  have Ff := Lib.hid (Hf.out.mono (G := F) (fun k _ h => h.elim))
  -- round 1: the line
  have fa1 := (Ff.out.alloc (.cells #[.int .i64 a, .int .i64 b] 58)).drew
  have na1 := Hn1.out.fr (((Fr.refl None' w1).alloc (.cells #[.int .i64 a, .int .i64 b] 58)).drew) (fun _ _ h => h)
  obtain ⟨_, _, ga1, _⟩ := na1.cells
  have ba1 : (w1.alloc (.cells #[.int .i64 a, .int .i64 b] 58)).drew.cell? ⟨w1.heap.size, 0, none⟩ = some (.int .i64 a) := World.cell?_alloc_new _ _ _ _
  have bb1 : (w1.alloc (.cells #[.int .i64 a, .int .i64 b] 58)).drew.cell? ⟨w1.heap.size, 1, none⟩ = some (.int .i64 b) := World.cell?_alloc_new _ _ _ _
  obtain ⟨w12, LC1, kc1, hup1, n12, f12, h12⟩ := na1.upc a b true
  have sz1 : w1.heap.size < (w1.alloc (.cells #[.int .i64 a, .int .i64 b] 58)).drew.heap.size := World.block_lt_of_cell? _ _ ba1
  have nmc1 : w1.heap.size ≠ mc := by have := (Array.getElem?_eq_some_iff.1 Hn1.out.cs).1; omega
  have nmq1 : w1.heap.size ≠ mq := by have := (Array.getElem?_eq_some_iff.1 Hn1.out.qs).1; omega
  have bc1 := (World.cell?_of_block (h12 w1.heap.size nmc1) (a := ⟨w1.heap.size, 0, none⟩)).trans ba1
  have bd1 := (World.cell?_of_block (h12 w1.heap.size nmc1) (a := ⟨w1.heap.size, 1, none⟩)).trans bb1
  obtain ⟨_, gd1, gc1, _⟩ := n12.cells
  have Fa1 := Lib.hid (fa1.trans f12 (fun _ _ h => h))
  have Na1 := Lib.hid n12
  clear fa1 na1 n12 f12 h12
  generalize hwa : w1.alloc (.cells #[.int .i64 a, .int .i64 b] 58) = wa1 at *
  clear hwa
  go_still_tail 6, (by kernel_rfl)
  change wpList _ _ _ _ _ wa1.drew
  go_wp2_with fail
  -- the queue
  have nb1 := Na1.out.fr ((Fr.refl None' w12).drew) (fun _ _ h => h)
  obtain ⟨w13, LQ1, kq1, huq1, n13, f13, h13⟩ := nb1.upq a b
  obtain ⟨_, _, gf1, _⟩ := n13.cells
  have Fb1 := Lib.hid (Fa1.out.drew.trans f13 (fun _ _ h => h))
  have Nb1 := Lib.hid n13
  clear nb1 n13 f13 h13
  go_still_tail 5, (by kernel_rfl)
  change wpList _ _ _ _ _ w12.drew
  go_wp2_with fail
  rw [rounds_succ]
  go_wp2_with fail
  -- round 2: the line
  have fa2 := (Fb1.out.alloc (.cells #[.int .i64 b, .int .i64 a] 58)).drew
  have na2 := Nb1.out.fr (((Fr.refl None' w13).alloc (.cells #[.int .i64 b, .int .i64 a] 58)).drew) (fun _ _ h => h)
  obtain ⟨_, _, ga2, _⟩ := na2.cells
  have ba2 : (w13.alloc (.cells #[.int .i64 b, .int .i64 a] 58)).drew.cell? ⟨w13.heap.size, 0, none⟩ = some (.int .i64 b) := World.cell?_alloc_new _ _ _ _
  have bb2 : (w13.alloc (.cells #[.int .i64 b, .int .i64 a] 58)).drew.cell? ⟨w13.heap.size, 1, none⟩ = some (.int .i64 a) := World.cell?_alloc_new _ _ _ _
  obtain ⟨w22, LC2, kc2, hup2, n22, f22, h22⟩ := na2.upc b a true
  have sz2 : w13.heap.size < (w13.alloc (.cells #[.int .i64 b, .int .i64 a] 58)).drew.heap.size := World.block_lt_of_cell? _ _ ba2
  have nmc2 : w13.heap.size ≠ mc := by have := (Array.getElem?_eq_some_iff.1 Nb1.out.cs).1; omega
  have nmq2 : w13.heap.size ≠ mq := by have := (Array.getElem?_eq_some_iff.1 Nb1.out.qs).1; omega
  have bc2 := (World.cell?_of_block (h22 w13.heap.size nmc2) (a := ⟨w13.heap.size, 0, none⟩)).trans ba2
  have bd2 := (World.cell?_of_block (h22 w13.heap.size nmc2) (a := ⟨w13.heap.size, 1, none⟩)).trans bb2
  obtain ⟨_, gd2, gc2, _⟩ := n22.cells
  have Fa2 := Lib.hid (fa2.trans f22 (fun _ _ h => h))
  have Na2 := Lib.hid n22
  clear fa2 na2 n22 f22 h22
  generalize hwa : w13.alloc (.cells #[.int .i64 b, .int .i64 a] 58) = wa2 at *
  clear hwa
  go_still_tail 6, (by kernel_rfl)
  change wpList _ _ _ _ _ wa2.drew
  go_wp2_with fail
  -- the queue
  have nb2 := Na2.out.fr ((Fr.refl None' w22).drew) (fun _ _ h => h)
  obtain ⟨w23, LQ2, kq2, huq2, n23, f23, h23⟩ := nb2.upq b a
  obtain ⟨_, _, gf2, _⟩ := n23.cells
  have Fb2 := Lib.hid (Fa2.out.drew.trans f23 (fun _ _ h => h))
  have Nb2 := Lib.hid n23
  clear nb2 n23 f23 h23
  go_still_tail 5, (by kernel_rfl)
  change wpList _ _ _ _ _ w22.drew
  go_wp2_with fail
  rw [rounds_succ]
  go_wp2_with fail
  go_ret
  refine ⟨rfl, ⟨_, _, _, _, _, _, Nb2.out.kept (fun _ _ _ => rfl) (fun k hk => .inl hk)⟩, Fb2.out⟩

theorem cut_calls (p : Value) (a b : Int) (R : Int → World → Prop) (w : World) (h : Calls Try.prog 31 #[p, .int .i64 a, .int .i64 b, .bool true] w (fun e w' => ∃ n, e = .returned (.int .i64 n) ∧ R n w')) :
    Calls Try.prog 20 #[p, .int .i64 a, .int .i64 b] w (fun e w' => ∃ n, e = .returned (.int .i64 n) ∧ R n w') := by
  have H := Lib.hid h
  clear h
  go_enter Try.func20, Try.ntmps20
  go_wp2_with fail
  refine H.out.mono ?_
  rintro e w' ⟨n, rfl, hR⟩
  have HR := Lib.hid hR
  clear hR
  go_wp2_with fail
  go_ret
  exact ⟨n, rfl, HR.out⟩
theorem heal_calls (p : Value) (a b : Int) (R : Int → World → Prop) (w : World) (h : Calls Try.prog 31 #[p, .int .i64 a, .int .i64 b, .bool false] w (fun e w' => ∃ n, e = .returned (.int .i64 n) ∧ R n w')) :
    Calls Try.prog 21 #[p, .int .i64 a, .int .i64 b] w (fun e w' => ∃ n, e = .returned (.int .i64 n) ∧ R n w') := by
  have H := Lib.hid h
  clear h
  go_enter Try.func21, Try.ntmps21
  go_wp2_with fail
  refine H.out.mono ?_
  rintro e w' ⟨n, rfl, hR⟩
  have HR := Lib.hid hR
  clear hR
  go_wp2_with fail
  go_ret
  exact ⟨n, rfl, HR.out⟩
end Go.Proofs.Ytdgcimjpggjnjaa

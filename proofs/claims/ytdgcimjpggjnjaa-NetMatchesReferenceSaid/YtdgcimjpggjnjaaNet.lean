/- Package net: what a network is in memory; Waiting, Send, Deliver, Cut, Heal. -/
import Derived.Test.YtdgcimjpggjnjaaNk
import Derived.StillTailTactics
import Derived.Deep.RegionHeld3
set_option linter.unusedVariables false
set_option linter.unusedSimpArgs false
namespace Go.Proofs.Ytdgcimjpggjnjaa
open Go.RowKit

def nilS : Value := .slice none 0 0

structure NetAt (w : World) (F : Nat → Prop) (g : Nat) (N : Int) (q : Int → Int → List ByteArray) (c : Int → Int → Bool) (mq mc : Nat) (LQ : List WE) (kq : Nat) (LC : List WE) (kc : Nat) : Prop where
  obj : w.heap[g]? = some (.cells #[.int .i64 N, .map (some mq), .map (some mc)] 56 (0, 0))
  qs : w.heap[mq]? = some (.map (went LQ) kq)
  cs : w.heap[mc]? = some (.map (went LC) kc)
  ok : WOK LQ kq
  ne1 : g ≠ mq
  ne2 : g ≠ mc
  ne3 : mq ≠ mc
  fg : F g
  fq : F mq
  fc : F mc
  row : ∀ a b, Row w 1 (wval a b nilS LQ) (strs (q a b))
  own : ∀ a b k, rowBlk (wval a b nilS LQ) = some k → F k ∧ k ≠ g ∧ k ≠ mq ∧ k ≠ mc
  apart : ∀ a b a' b', (a ≠ a' ∨ b ≠ b') → ∀ k, rowBlk (wval a b nilS LQ) = some k → rowBlk (wval a' b' nilS LQ) ≠ some k
  cut : ∀ a b, wval a b (.bool false) LC = .bool (c a b)
/-- A network of N nodes with queues q and lines that are cut c, whose blocks are of F. -/
def NetIs (w : World) (F : Nat → Prop) (g : Nat) (N : Int) (q : Int → Int → List ByteArray) (c : Int → Int → Bool) : Prop :=
  ∃ mq mc LQ kq LC kc, NetAt w F g N q c mq mc LQ kq LC kc

theorem NetAt.kept {w w' : World} {F F' : Nat → Prop} {g : Nat} {N : Int} {q : Int → Int → List ByteArray} {c : Int → Int → Bool} {mq mc : Nat} {LQ : List WE} {kq : Nat} {LC : List WE} {kc : Nat}
    (h : NetAt w F g N q c mq mc LQ kq LC kc) (hk : ∀ k, k < w.heap.size → F k → w'.heap[k]? = w.heap[k]?) (hF : ∀ k, F k → F' k) : NetAt w' F' g N q c mq mc LQ kq LC kc where
  obj := by rw [hk g (Array.getElem?_eq_some_iff.1 h.obj).1 h.fg]; exact h.obj
  qs := by rw [hk mq (Array.getElem?_eq_some_iff.1 h.qs).1 h.fq]; exact h.qs
  cs := by rw [hk mc (Array.getElem?_eq_some_iff.1 h.cs).1 h.fc]; exact h.cs
  ok := h.ok
  ne1 := h.ne1
  ne2 := h.ne2
  ne3 := h.ne3
  fg := hF _ h.fg
  fq := hF _ h.fq
  fc := hF _ h.fc
  row := fun a b => (h.row a b).kept fun k hb => hk k ((h.row a b).lt hb) (h.own a b k hb).1
  own := fun a b k hb => ⟨hF _ (h.own a b k hb).1, (h.own a b k hb).2⟩
  apart := h.apart
  cut := h.cut
theorem NetAt.fr {w w' : World} {F G : Nat → Prop} {g : Nat} {N : Int} {q : Int → Int → List ByteArray} {c : Int → Int → Bool} {mq mc : Nat} {LQ : List WE} {kq : Nat} {LC : List WE} {kc : Nat}
    (h : NetAt w F g N q c mq mc LQ kq LC kc) (hf : Fr G w w') (hd : ∀ k, F k → ¬ G k) : NetAt w' F g N q c mq mc LQ kq LC kc :=
  h.kept (fun k hk hF => hf.block k hk (hd k hF)) (fun _ h => h)
theorem NetIs.fr {w w' : World} {F G : Nat → Prop} {g : Nat} {N : Int} {q : Int → Int → List ByteArray} {c : Int → Int → Bool}
    (h : NetIs w F g N q c) (hf : Fr G w w') (hd : ∀ k, F k → ¬ G k) : NetIs w' F g N q c := by
  obtain ⟨mq, mc, LQ, kq, LC, kc, h⟩ := h
  exact ⟨mq, mc, LQ, kq, LC, kc, h.fr hf hd⟩
theorem NetIs.mono {w : World} {F G : Nat → Prop} {g : Nat} {N : Int} {q : Int → Int → List ByteArray} {c : Int → Int → Bool}
    (h : NetIs w F g N q c) (hF : ∀ k, F k → G k) : NetIs w G g N q c := by
  obtain ⟨mq, mc, LQ, kq, LC, kc, h⟩ := h
  exact ⟨mq, mc, LQ, kq, LC, kc, h.kept (fun _ _ _ => rfl) hF⟩

theorem info9 : (Try.prog.info? 9).map (fun i => (i.zero, i.size, i.bytes)) = some (some (.string ⟨#[]⟩), 1, 16) := by kernel_rfl

/-- slices.Clone of texts. -/
theorem clone_any (v : Value) (xs : List ByteArray) (w : World) (hv : Row w 1 v (strs xs)) (hb : xs.length ≤ 1000000) :
    Calls Try.prog 24 #[v] w fun e w' => ∃ v', e = .returned v' ∧ Row w' 1 v' (strs xs) ∧ (∀ k, rowBlk v' = some k → w.heap.size ≤ k ∧ k < w'.heap.size) ∧ Fr None' w w' := by
  obtain ⟨A, n, cap, rfl, hl⟩ := hv.form
  have hn : n = xs.length := by rw [strs_length] at hl; omega
  cases A with
  | none =>
    have hx : xs = [] := by
      cases xs with
      | nil => rfl
      | cons x r => obtain ⟨a, h, _⟩ := hv.cell 0 (.string x) (by simp [strs]); cases h
    subst hx
    have heq := fun w : World => Lib.run_eql_slice_nil (P := Try.prog) w 22 9 none n cap 0 0 Try.underlying22
    clear hv hn hl
    go_enter Try.func24, Try.ntmps24
    go_wp2_with fail
    go_ret
    exact ⟨_, rfl, Row.nil _ _ _, by simp [rowBlk], Fr.refl _ _⟩
  | some a =>
    have heq := fun w : World => Lib.run_eql_slice_nil (P := Try.prog) w 22 9 (some a) n cap 0 0 Try.underlying22
    have Hv := Lib.hid hv
    have Hn := Lib.hid hn
    have Hl := Lib.hid hl
    clear hv hn hl
    go_enter Try.func24, Try.ntmps24
    go_wp2_with (at_builtin; refine wpList_append_row _ rfl _ _ 22 9 rfl _ 1 16 Try.underlying22 info9 rfl (by decide) _ [] rfl (Row.nil _ _ _) (some a) n cap (strs xs) rfl ?h1 ?h2 ?h3 ?h4 ?h5 ?_)
    case h1 => exact Hl.out
    case h2 => exact Hv.out.kept (fun k hk => Below.heap_alloc _ _ _ (Hv.out.lt hk)) |>.reads
    case h3 => exact strs_one xs
    case h4 => rw [strs_length]; simp; omega
    case h5 => rw [strs_length]; simp; omega
    intro v' w1 hr hg hb
    have Hr := Lib.hid hr
    have Hg := Lib.hid hg
    have Hb := Lib.hid hb
    clear hr hg hb
    go_wp2_with fail
    go_ret
    have hg := Hg.out
    have hf : Fr None' w w1 := ((Fr.refl None' w).alloc _).grown hg (by simp [rowBlk])
    refine ⟨v', rfl, by simpa using Hr.out, ?_, hf⟩
    intro k hk
    refine ⟨?_, Hr.out.lt hk⟩
    rcases Hb.out with hb | hb
    · rw [hb] at hk; simp [rowBlk] at hk
    · rw [hb] at hk; simp at hk; omega

/-- Which texts wait. -/
def waitL (N : Int) (q : Int → Int → List ByteArray) (a b : Int) : List ByteArray := if knowsB N a b then q a b else []

theorem zero22 (w : World) : (zeroValue 22).run Try.prog w = .ok nilS w := by kernel_rfl
theorem zero4 (w : World) : (zeroValue 4).run Try.prog w = .ok (.bool false) w := by kernel_rfl
theorem build58 (a b : Int) (w : World) : (Instr.build 58 #[(0, .int .i64 a), (1, .int .i64 b)]).run Try.prog w = .ok (wkey a b) w := by kernel_rfl

theorem waiting_nil (a b : Int) (w : World) : Calls Try.prog 14 #[.pointer none, .int .i64 a, .int .i64 b] w fun e w' => e = .returned nilS ∧ Fr None' w w' := by
  go_enter Try.func14, Try.ntmps14
  go_wp2_with fail
  refine (knows_nil a b _).mono ?_
  rintro e w' ⟨rfl, rfl⟩
  go_wp2_with fail
  go_ret
  exact ⟨rfl, (((Fr.refl _ _).alloc _).alloc _).alloc _⟩

theorem knows_fr (N a b : Int) (g : Nat) (w : World) (hg : w.cell? ⟨g, 0, none⟩ = some (.int .i64 N)) : Calls Try.prog 22 #[.pointer (some ⟨g, 0, none⟩), wkey a b] w fun e w' => e = .returned (.bool (knowsB N a b)) ∧ Fr None' w w' :=
  (knows_any N a b g w hg).mono fun _ _ ⟨he, hw⟩ => ⟨he, hw ▸ ((Fr.refl _ _).alloc _).alloc _⟩
/-- Facts on a world that the other facts come from. -/
theorem NetAt.cells {w : World} {F : Nat → Prop} {g : Nat} {N : Int} {q : Int → Int → List ByteArray} {c : Int → Int → Bool} {mq mc : Nat} {LQ : List WE} {kq : Nat} {LC : List WE} {kc : Nat}
    (h : NetAt w F g N q c mq mc LQ kq LC kc) : w.cell? ⟨g, 0, none⟩ = some (.int .i64 N) ∧ w.cell? ⟨g, 1, none⟩ = some (.map (some mq)) ∧ w.cell? ⟨g, 2, none⟩ = some (.map (some mc)) ∧ g < w.heap.size :=
  ⟨by rw [cell_of_row w g 0 _ _ _ h.obj]; rfl, by rw [cell_of_row w g 1 _ _ _ h.obj]; rfl, by rw [cell_of_row w g 2 _ _ _ h.obj]; rfl, (Array.getElem?_eq_some_iff.1 h.obj).1⟩
theorem NetAt.look {w : World} {F : Nat → Prop} {g : Nat} {N : Int} {q : Int → Int → List ByteArray} {c : Int → Int → Bool} {mq mc : Nat} {LQ : List WE} {kq : Nat} {LC : List WE} {kc : Nat}
    (h : NetAt w F g N q c mq mc LQ kq LC kc) (a b : Int) (W : World) (hW : W.heap = w.heap) : (Instr.lookup 53 (.map (some mq)) (.agg #[.int .i64 a, .int .i64 b]) false).run Try.prog W = .ok (wval a b nilS LQ) W :=
  wayKey.run_lookup 53 22 Try.underlying53 nilS zero22 mq LQ kq a b W (by rw [hW]; exact h.qs)
theorem NetAt.lookc {w : World} {F : Nat → Prop} {g : Nat} {N : Int} {q : Int → Int → List ByteArray} {c : Int → Int → Bool} {mq mc : Nat} {LQ : List WE} {kq : Nat} {LC : List WE} {kc : Nat}
    (h : NetAt w F g N q c mq mc LQ kq LC kc) (a b : Int) (W : World) (hW : W.heap = w.heap) : (Instr.lookup 54 (.map (some mc)) (.agg #[.int .i64 a, .int .i64 b]) false).run Try.prog W = .ok (.bool (c a b)) W := by
  rw [← h.cut a b]
  exact wayKey.run_lookup 54 4 Try.underlying54 (.bool false) zero4 mc LC kc a b W (by rw [hW]; exact h.cs)
/-- The facts that a walk needs of a new box. -/
theorem box_cells {w w1 : World} {cs : Array Value} {t : TypeId} {F : Nat → Prop} (hf : Fr F (w.alloc (.cells cs t)) w1) (hn : ¬ F w.heap.size) : ∀ j v, cs[j]? = some v → w1.cell? ⟨w.heap.size, j, none⟩ = some v := by
  intro j v hv
  exact hf.cell (by rw [World.cell?_alloc_new]; exact hv) hn

theorem waiting_any {w : World} {F : Nat → Prop} {g : Nat} {N : Int} {q : Int → Int → List ByteArray} {c : Int → Int → Bool} (hn : NetIs w F g N q c) (a b : Int) (hb : (q a b).length ≤ 1000000) :
    Calls Try.prog 14 #[.pointer (some ⟨g, 0, none⟩), .int .i64 a, .int .i64 b] w fun e w' => ∃ v, e = .returned v ∧ Row w' 1 v (strs (waitL N q a b)) ∧ (∀ k, rowBlk v = some k → w.heap.size ≤ k ∧ k < w'.heap.size) ∧ Fr None' w w' := by
  obtain ⟨mq, mc, LQ, kq, LC, kc, hn⟩ := hn
  obtain ⟨hg, hg1, _, hlt⟩ := hn.cells
  by_cases hk : knowsB N a b = true
  · have hw : waitL N q a b = q a b := by simp [waitL, hk]
    rw [hw]
    have Hk := Lib.hid hk
    have Hn := Lib.hid hn
    clear hk hw hn
    go_enter Try.func14, Try.ntmps14
    go_wp2_with fail
    refine (knows_fr N a b g _ ?_).mono ?_
    · go_simp
    rw [Hk.out]
    rintro e w1 ⟨rfl, hf⟩
    have hn1 : NetAt w1 F g N q c mq mc LQ kq LC kc := Hn.out.fr ((Fr.refl _ w).alloc _ |>.trans0 hf) (fun _ _ h => h)
    obtain ⟨_, hg1', _, _⟩ := hn1.cells
    have c0 := box_cells hf (fun h => h) 0 _ rfl
    have c1 := box_cells hf (fun h => h) 1 _ rfl
    have hlk := hn1.look a b w1.drew rfl
    have Hf := Lib.hid hf
    have Hn1 := Lib.hid hn1
    clear hf hn1
    go_wp2_with fail
    go_still_tail 6, (by kernel_rfl)
    change wpList _ _ _ _ _ w1.drew
    have Hd := Lib.hid ((Fr.refl None' w1).drew)
    generalize w1.drew = w2 at *
    clear hlk
    go_wp2_with fail
    refine (clone_any _ (q a b) w2 ((Hn1.out.row a b).fr Hd.out (fun _ _ h => h)) hb).mono ?_
    rintro e w3 ⟨v, rfl, hr, hk, hf3⟩
    have Hr := Lib.hid hr
    have Hk3 := Lib.hid hk
    have Hf3 := Lib.hid hf3
    clear hr hk hf3
    go_wp2_with fail
    go_ret
    have hfr : Fr None' w w2 := (((Fr.refl None' w).alloc _).trans0 Hf.out).trans0 Hd.out
    exact ⟨v, rfl, Hr.out, fun k hk => ⟨Nat.le_trans hfr.size (Hk3.out k hk).1, (Hk3.out k hk).2⟩, hfr.trans0 Hf3.out⟩
  · have hk' : knowsB N a b = false := by simpa using hk
    have hw : waitL N q a b = [] := by simp [waitL, hk']
    rw [hw]
    have Hk := Lib.hid hk'
    have Hn := Lib.hid hn
    clear hk hk' hw hn
    go_enter Try.func14, Try.ntmps14
    go_wp2_with fail
    refine (knows_fr N a b g _ ?_).mono ?_
    · go_simp
    rw [Hk.out]
    rintro e w1 ⟨rfl, hf⟩
    have Hf := Lib.hid hf
    clear hf
    go_wp2_with fail
    go_ret
    exact ⟨nilS, rfl, Row.nil _ _ _, by simp [rowBlk, nilS], ((Fr.refl None' w).alloc _).trans0 Hf.out⟩

/-- The queues with another list at a pair. -/
def qset (q : Int → Int → List ByteArray) (a b : Int) (l : List ByteArray) (x y : Int) : List ByteArray := if x = a ∧ y = b then l else q x y
/-- Send: the error. -/
def sendE (N : Int) (q : Int → Int → List ByteArray) (c : Int → Int → Bool) (a b : Int) (t : ByteArray) : Int :=
  if knowsB N a b = false ∨ 20000 < t.size then 1 else if c a b then 29 else if 100 ≤ (q a b).length then 28 else 0
/-- Send: the queues behind it. -/
def sendQ (N : Int) (q : Int → Int → List ByteArray) (c : Int → Int → Bool) (a b : Int) (t : ByteArray) : Int → Int → List ByteArray :=
  if sendE N q c a b t = 0 then qset q a b (q a b ++ [t]) else q

theorem send_nil (a b : Int) (t : ByteArray) (w : World) : Calls Try.prog 11 #[.pointer none, .int .i64 a, .int .i64 b, .string t] w fun e w' => e = .returned (.int .i64 1) ∧ Fr None' w w' := by
  go_enter Try.func11, Try.ntmps11
  go_wp2_with fail
  refine (knows_nil a b _).mono ?_
  rintro e w' ⟨rfl, rfl⟩
  go_wp2_with fail
  go_ret
  exact ⟨rfl, (((Fr.refl _ _).alloc _).alloc _).alloc _⟩
/-- Not sent. -/
theorem send_arg {w : World} {g : Nat} {N : Int} (a b : Int) (t : ByteArray) (hg : w.cell? ⟨g, 0, none⟩ = some (.int .i64 N)) (h : knowsB N a b = false ∨ 20000 < t.size) (ht : t.size ≤ 9223372036854775807) :
    Calls Try.prog 11 #[.pointer (some ⟨g, 0, none⟩), .int .i64 a, .int .i64 b, .string t] w fun e w' => e = .returned (.int .i64 1) ∧ Fr None' w w' := by
  have hlt := World.block_lt_of_cell? w _ hg
  simp only at hlt
  by_cases hk : knowsB N a b = true
  · have h2 : 20000 < t.size := by rcases h with h | h; rw [hk] at h; cases h; exact h
    have Hk := Lib.hid hk
    clear hk h
    go_enter Try.func11, Try.ntmps11
    go_wp2_with fail
    refine (knows_fr N a b g _ ?_).mono ?_
    · go_simp
    rw [Hk.out]
    rintro e w1 ⟨rfl, hf⟩
    have Hf := Lib.hid hf
    clear hf
    go_wp2_with fail
    go_ret
    exact ⟨rfl, ((Fr.refl None' w).alloc _).trans0 Hf.out⟩
  · have hk' : knowsB N a b = false := by simpa using hk
    have Hk := Lib.hid hk'
    clear hk hk' h
    go_enter Try.func11, Try.ntmps11
    go_wp2_with fail
    refine (knows_fr N a b g _ ?_).mono ?_
    · go_simp
    rw [Hk.out]
    rintro e w1 ⟨rfl, hf⟩
    have Hf := Lib.hid hf
    clear hf
    go_wp2_with fail
    go_ret
    exact ⟨rfl, ((Fr.refl None' w).alloc _).trans0 Hf.out⟩

/-- The facts on a network that a walk needs. -/
theorem send_closed {w : World} {F : Nat → Prop} {g : Nat} {N : Int} {q : Int → Int → List ByteArray} {c : Int → Int → Bool} (hn : NetIs w F g N q c) (a b : Int) (t : ByteArray) (hk : knowsB N a b = true) (ht : t.size ≤ 20000) (hc : c a b = true) :
    Calls Try.prog 11 #[.pointer (some ⟨g, 0, none⟩), .int .i64 a, .int .i64 b, .string t] w fun e w' => e = .returned (.int .i64 29) ∧ Fr None' w w' := by
  obtain ⟨mq, mc, LQ, kq, LC, kc, hn⟩ := hn
  obtain ⟨hg, _, hg2, hlt⟩ := hn.cells
  have Hk := Lib.hid hk
  have Hn := Lib.hid hn
  have Hc := Lib.hid hc
  clear hk hn hc
  go_enter Try.func11, Try.ntmps11
  go_wp2_with fail
  refine (knows_fr N a b g _ ?_).mono ?_
  · go_simp
  rw [Hk.out]
  rintro e w1 ⟨rfl, hf⟩
  have hn1 : NetAt w1 F g N q c mq mc LQ kq LC kc := Hn.out.fr ((Fr.refl _ w).alloc _ |>.trans0 hf) (fun _ _ h => h)
  obtain ⟨_, _, hg2', _⟩ := hn1.cells
  have c0 := box_cells hf (fun h => h) 0 _ rfl
  have c1 := box_cells hf (fun h => h) 1 _ rfl
  have hlk := fun n => hn1.lookc a b (w1.drewN n) rfl
  rw [Hc.out] at hlk
  have Hf := Lib.hid hf
  clear hf hn1
  go_wp2_with fail
  go_quiet (fail)
  go_wp2_with fail
  go_ret
  exact ⟨rfl, (((Fr.refl None' w).alloc _).trans0 Hf.out).drewN _⟩
theorem send_full {w : World} {F : Nat → Prop} {g : Nat} {N : Int} {q : Int → Int → List ByteArray} {c : Int → Int → Bool} (hn : NetIs w F g N q c) (a b : Int) (t : ByteArray) (hk : knowsB N a b = true) (ht : t.size ≤ 20000) (hc : c a b = false) (hq : 100 ≤ (q a b).length) :
    Calls Try.prog 11 #[.pointer (some ⟨g, 0, none⟩), .int .i64 a, .int .i64 b, .string t] w fun e w' => e = .returned (.int .i64 28) ∧ Fr None' w w' := by
  obtain ⟨mq, mc, LQ, kq, LC, kc, hn⟩ := hn
  obtain ⟨hg, _, _, hlt⟩ := hn.cells
  obtain ⟨A, n, cap, hv, hl⟩ := (hn.row a b).form
  have hn100 : 100 ≤ n := by rw [strs_length] at hl; omega
  have Hk := Lib.hid hk
  have Hn := Lib.hid hn
  have Hc := Lib.hid hc
  have Hv := Lib.hid hv
  clear hk hn hc hv hl hq
  go_enter Try.func11, Try.ntmps11
  go_wp2_with fail
  refine (knows_fr N a b g _ ?_).mono ?_
  · go_simp
  rw [Hk.out]
  rintro e w1 ⟨rfl, hf⟩
  have hn1 : NetAt w1 F g N q c mq mc LQ kq LC kc := Hn.out.fr ((Fr.refl _ w).alloc _ |>.trans0 hf) (fun _ _ h => h)
  obtain ⟨_, hg1', hg2', _⟩ := hn1.cells
  have c0 := box_cells hf (fun h => h) 0 _ rfl
  have c1 := box_cells hf (fun h => h) 1 _ rfl
  have hlc := fun n => hn1.lookc a b (w1.drewN n) rfl
  rw [Hc.out] at hlc
  have hlk := fun n => hn1.look a b (w1.drewN n) rfl
  rw [Hv.out] at hlk
  have Hf := Lib.hid hf
  clear hf hn1
  go_wp2_with fail
  go_quiet (fail)
  go_wp2_with fail
  go_quiet (fail)
  go_wp2_with fail
  go_ret
  exact ⟨rfl, ((((Fr.refl None' w).alloc _).trans0 Hf.out).drewN _).drewN _⟩

/-- Another row at a pair's queue. -/
theorem NetAt.putq {w w' : World} {F : Nat → Prop} {g : Nat} {N : Int} {q : Int → Int → List ByteArray} {c : Int → Int → Bool} {mq mc : Nat} {LQ : List WE} {kq : Nat} {LC : List WE} {kc : Nat}
    (h : NetAt w F g N q c mq mc LQ kq LC kc) (a b : Int) (v : Value) (l : List ByteArray) (hm : w'.heap[mq]? = some (.map (went (wput a b v kq LQ)) (if whas a b LQ = true then kq else kq + 1)))
    (hk : ∀ k, k < w.heap.size → F k → k ≠ mq → rowBlk (wval a b nilS LQ) ≠ some k → w'.heap[k]? = w.heap[k]?) (hr : Row w' 1 v (strs l))
    (hv : ∀ k, rowBlk v = some k → rowBlk (wval a b nilS LQ) = some k ∨ (w.heap.size ≤ k ∧ k < w'.heap.size)) :
    NetAt w' (Ext F w w') g N (qset q a b l) c mq mc (wput a b v kq LQ) (if whas a b LQ = true then kq else kq + 1) LC kc where
  obj := by rw [hk g (Array.getElem?_eq_some_iff.1 h.obj).1 h.fg h.ne1 (fun e => (h.own a b g e).2.1 rfl)]; exact h.obj
  qs := hm
  cs := by rw [hk mc (Array.getElem?_eq_some_iff.1 h.cs).1 h.fc (Ne.symm h.ne3) (fun e => (h.own a b mc e).2.2.2 rfl)]; exact h.cs
  ok := h.ok.put a b v
  ne1 := h.ne1
  ne2 := h.ne2
  ne3 := h.ne3
  fg := .inl h.fg
  fq := .inl h.fq
  fc := .inl h.fc
  row := fun x y => by
    by_cases hxy : x = a ∧ y = b
    · obtain ⟨rfl, rfl⟩ := hxy
      rw [wval_wput_same]
      simpa [qset] using hr
    · have hne : x ≠ a ∨ y ≠ b := by
        by_cases hx : x = a
        · exact .inr (fun hy => hxy ⟨hx, hy⟩)
        · exact .inl hx
      rw [wval_wput_other a b x y nilS v kq hne]
      have e : qset q a b l x y = q x y := by simp [qset, hxy]
      rw [e]
      exact (h.row x y).kept fun k hb => hk k ((h.row x y).lt hb) (h.own x y k hb).1 (h.own x y k hb).2.2.1 (h.apart x y a b hne k hb)
  own := fun x y k hb => by
    by_cases hxy : x = a ∧ y = b
    · obtain ⟨rfl, rfl⟩ := hxy
      rw [wval_wput_same] at hb
      rcases hv k hb with h' | h'
      · exact ⟨.inl (h.own _ _ k h').1, (h.own _ _ k h').2⟩
      · have h1 := (Array.getElem?_eq_some_iff.1 h.obj).1
        have h2 := (Array.getElem?_eq_some_iff.1 h.qs).1
        have h3 := (Array.getElem?_eq_some_iff.1 h.cs).1
        exact ⟨.inr h', by omega, by omega, by omega⟩
    · have hne : x ≠ a ∨ y ≠ b := by
        by_cases hx : x = a
        · exact .inr (fun hy => hxy ⟨hx, hy⟩)
        · exact .inl hx
      rw [wval_wput_other a b x y nilS v kq hne] at hb
      exact ⟨.inl (h.own x y k hb).1, (h.own x y k hb).2⟩
  apart := fun x y x' y' hne k hb hb' => by
    have key : ∀ x y x' y' : Int, (x ≠ x' ∨ y ≠ y') → (x = a ∧ y = b) → rowBlk v = some k → rowBlk (wval x' y' nilS (wput a b v kq LQ)) = some k → False := by
      rintro _ _ x' y' hne ⟨rfl, rfl⟩ hb hb'
      rw [wval_wput_other _ _ x' y' nilS v kq (by rcases hne with h | h; exact .inl (Ne.symm h); exact .inr (Ne.symm h))] at hb'
      rcases hv k hb with h' | h'
      · exact h.apart _ _ x' y' hne k h' hb'
      · have := (h.row x' y').lt hb'
        omega
    by_cases hxy : x = a ∧ y = b
    · have hb0 := hb
      rw [hxy.1, hxy.2, wval_wput_same] at hb0
      exact key x y x' y' hne hxy hb0 hb'
    · by_cases hxy' : x' = a ∧ y' = b
      · have hb0 := hb'
        rw [hxy'.1, hxy'.2, wval_wput_same] at hb0
        exact key x' y' x y (by rcases hne with h | h; exact .inl (Ne.symm h); exact .inr (Ne.symm h)) hxy' hb0 hb
      · have hn1 : x ≠ a ∨ y ≠ b := by
          by_cases hx : x = a
          · exact .inr (fun hy => hxy ⟨hx, hy⟩)
          · exact .inl hx
        have hn2 : x' ≠ a ∨ y' ≠ b := by
          by_cases hx : x' = a
          · exact .inr (fun hy => hxy' ⟨hx, hy⟩)
          · exact .inl hx
        rw [wval_wput_other a b x y nilS v kq hn1] at hb
        rw [wval_wput_other a b x' y' nilS v kq hn2] at hb'
        exact h.apart x y x' y' hne k hb hb'
  cut := h.cut

theorem send_ok {w : World} {F : Nat → Prop} {g : Nat} {N : Int} {q : Int → Int → List ByteArray} {c : Int → Int → Bool} (hn : NetIs w F g N q c) (a b : Int) (t : ByteArray) (hk : knowsB N a b = true) (ht : t.size ≤ 20000) (hc : c a b = false) (hq : (q a b).length < 100) :
    Calls Try.prog 11 #[.pointer (some ⟨g, 0, none⟩), .int .i64 a, .int .i64 b, .string t] w fun e w' => e = .returned (.int .i64 0) ∧ NetIs w' (Ext F w w') g N (qset q a b (q a b ++ [t])) c ∧ Fr F w w' := by
  obtain ⟨mq, mc, LQ, kq, LC, kc, hn⟩ := hn
  obtain ⟨hg, _, _, hlt⟩ := hn.cells
  obtain ⟨A, n, cap, hv, hl⟩ := (hn.row a b).form
  have hn100 : n < 100 := by rw [strs_length] at hl; omega
  have Hk := Lib.hid hk
  have Hn := Lib.hid hn
  have Hc := Lib.hid hc
  have Hv := Lib.hid hv
  have Hq := Lib.hid hq
  clear hk hn hc hv hl hq
  go_enter Try.func11, Try.ntmps11
  go_wp2_with fail
  refine (knows_fr N a b g _ ?_).mono ?_
  · go_simp
  rw [Hk.out]
  rintro e w1 ⟨rfl, hf⟩
  have hn1 : NetAt w1 F g N q c mq mc LQ kq LC kc := Hn.out.fr ((Fr.refl _ w).alloc _ |>.trans0 hf) (fun _ _ h => h)
  obtain ⟨_, hg1', hg2', hlt1⟩ := hn1.cells
  have c0 := box_cells hf (fun h => h) 0 _ rfl
  have c1 := box_cells hf (fun h => h) 1 _ rfl
  have hlc := fun n => hn1.lookc a b (w1.drewN n) rfl
  rw [Hc.out] at hlc
  have hlk := fun n => hn1.look a b (w1.drewN n) rfl
  rw [Hv.out] at hlk
  have Hf := Lib.hid hf
  have Hn1 := Lib.hid hn1
  clear hf hn1
  go_wp2_with fail
  go_quiet (fail)
  generalize nq = n1
  go_wp2_with fail
  go_quiet (fail)
  go_wp2_with fail
  -- the world in which the last region begins
  have Hw2 := Lib.hid (((Fr.refl None' w1).drewN n1).drewN nq).drew
  have hn2 := (Hn1.out.fr Hw2.out (fun _ _ h => h))
  rw [show ((w1.drewN n1).drewN nq).drew = World.drew ((w1.drewN n1).drewN nq) from rfl] at *
  have d0 := Hw2.out.cell c0 (fun h => h)
  have d1 := Hw2.out.cell c1 (fun h => h)
  obtain ⟨_, e1, _, hlt2⟩ := hn2.cells
  clear hlc hlk c0 c1 hg1' hg2' hg hlt1
  generalize hw2 : (w1.drewN n1).drewN nq = w2 at *
  clear hw2
  -- the entry
  obtain ⟨wp, hwp⟩ : ∃ wp, wp = (w2.alloc (.cells #[.string t] 9)).drew := ⟨_, rfl⟩
  have hsz : w2.heap.size < wp.heap.size := by rw [hwp]; simp
  have hold : ∀ k, k < w2.heap.size → wp.heap[k]? = w2.heap[k]? := by intro k hk; rw [hwp]; exact Below.heap_alloc _ _ _ hk
  have hq3 : wp.heap[mq]? = some (.map (went LQ) kq) := by
    rw [hold mq (Array.getElem?_eq_some_iff.1 hn2.qs).1]; exact hn2.qs
  have hen := wayKey.run_entry 53 22 Try.underlying53 nilS zero22 mq LQ kq a b _ hq3
  rw [Hv.out] at hen
  simp only [wkey] at hen
  obtain ⟨w3, hw3⟩ : ∃ w3, w3 = World.setObj wp mq (.map (went (wopen a b nilS kq LQ)) (if whas a b LQ = true then kq else kq + 1)) := ⟨_, rfl⟩
  rw [← hw3] at hen
  have hrow2 := hn2.row a b
  rw [Hv.out] at hrow2
  have hown := hn2.own a b
  rw [Hv.out] at hown
  have hrow3 : Row w3 1 (.slice A n cap) (strs (q a b)) := hrow2.kept (fun k hk => by
    rw [hw3, World.setObj_other (hown k hk).2.2.1, hold k (hrow2.lt hk)]; rfl)
  have hrd3 : ReadsAs w3 (some ⟨w2.heap.size, 0, none⟩) [.string t] := by
    intro j u hj
    refine ⟨_, rfl, ?_⟩
    have : j = 0 := by cases j with | zero => rfl | succ j => simp at hj
    subst this
    simp at hj; subst hj
    have hne : w2.heap.size ≠ mq := by
      have := (Array.getElem?_eq_some_iff.1 hn2.qs).1
      simp at this
      omega
    rw [hw3]
    rw [World.setObj_cell (by simpa [Addr.add] using hne), hwp]
    simp [Addr.add]
  have hltw : ∀ a : Addr, a.block < w2.heap.size → a.block ≠ mq → w3.cell? a = w2.drew.cell? a := by
    intro a ha hne
    rw [hw3, World.setObj_cell hne]
    exact World.cell?_of_block (hold _ ha)
  have p1 := (World.cell?_of_block (hold g hlt2) (w := w2) (a := ⟨g, 1, none⟩)).trans e1
  have hbx : w.heap.size < w2.heap.size := World.block_lt_of_cell? _ _ d0
  have p2 := (World.cell?_of_block (hold _ hbx) (w := w2) (a := ⟨w.heap.size, 0, none⟩)).trans d0
  have p3 := (World.cell?_of_block (hold _ hbx) (w := w2) (a := ⟨w.heap.size, 1, none⟩)).trans d1
  have hbq : w.heap.size ≠ mq := by have := (Array.getElem?_eq_some_iff.1 Hn.out.qs).1; omega
  have k1 := (hltw ⟨g, 1, none⟩ hlt2 hn2.ne1).trans e1
  have k2 := (hltw ⟨w.heap.size, 0, none⟩ hbx hbq).trans d0
  have k3 := (hltw ⟨w.heap.size, 1, none⟩ hbx hbq).trans d1
  subst hwp
  have hone : ∀ u ∈ [Value.string t], u.oneCell' = true := by intro u hu; simp at hu; subst hu; rfl
  have hlen4 : (strs (q a b)).length + [Value.string t].length ≤ 9007199254740992 := by rw [strs_length]; simp; have := Hq.out; omega
  have hby4 : (((strs (q a b)).length + [Value.string t].length) / 1) * 16 ≤ 140737488355328 := by rw [strs_length]; simp; have := Hq.out; omega
  have hqw3 : w3.heap[mq]? = some (.map (went (wopen a b nilS kq LQ)) (if whas a b LQ = true then kq else kq + 1)) := by rw [hw3]; exact World.setObj_same hq3
  have hlt3 : g < w3.heap.size := World.block_lt_of_cell? _ _ k1
  have hbx3 : w.heap.size < w3.heap.size := World.block_lt_of_cell? _ _ k2
  have hmq3 : mq < w3.heap.size := (Array.getElem?_eq_some_iff.1 hqw3).1
  have hown' : ∀ k, rowBlk (.slice A n cap) = some k → k < w.heap.size := by
    intro k hk
    have := Hn.out.row a b
    rw [Hv.out] at this
    exact this.lt hk
  have Hw3 := Lib.hid hw3
  have Hn2 := Lib.hid hn2
  have Hown := Lib.hid hown
  have Hown' := Lib.hid hown'
  have Hrow3 := Lib.hid hrow3
  have Hrd3 := Lib.hid hrd3
  have Hhold := Lib.hid hold
  have Hone := Lib.hid hone
  have Hlen4 := Lib.hid hlen4
  have Hby4 := Lib.hid hby4
  have Hqw3 := Lib.hid hqw3
  have Hhltw := Lib.hid hltw
  clear hw3 hn2 hown hown' hrow3 hrd3 hq3 hrow2 hold hltw hone hlen4 hby4 hqw3
  go_region_held3 (fun w' => w'.cell? ⟨g, 1, none⟩ = some (.map (some mq)) ∧ w'.cell? ⟨w.heap.size, 0, none⟩ = some (.int .i64 a) ∧ w'.cell? ⟨w.heap.size, 1, none⟩ = some (.int .i64 b))
    (first | exact ⟨e1, d0, d1⟩ | exact ⟨p1, p2, p3⟩ | exact ⟨k1, k2, k3⟩ | exact ⟨q1, q2, q3⟩ | exact ⟨r1, r2, r3⟩)
    (first | (refine step_append_row w3 rfl (.tmp 44) (.tmp 46) 22 9 rfl (.string ⟨#[]⟩) 1 16 Try.underlying22 info9 rfl Nat.one_pos (.slice A n cap) (strs (q a b)) rfl Hrow3.out (some ⟨w2.heap.size, 0, none⟩) 1 1 [.string t] rfl rfl Hrd3.out Hone.out Hlen4.out Hby4.out ?_
              intro v4 w4 hr4 hg4 hb4
              have hne4 : ∀ k : Nat, k < w3.heap.size → (F k → k = g ∨ k = mq ∨ k = mc) → (k < w.heap.size ∨ k = w.heap.size) → w4.heap[k]? = w3.heap[k]? := fun k hk hF hlt => hg4.block k hk (fun e => by
                have h1 := Hown.out k e.symm
                have h2 := Hown'.out k e.symm
                rcases hF h1.1 with h | h | h
                · exact h1.2.1 h
                · exact h1.2.2.1 h
                · exact h1.2.2.2 h)
              have q1 := (World.cell?_of_block (hne4 g hlt3 (fun _ => .inl rfl) (.inl hlt)) (a := ⟨g, 1, none⟩)).trans k1
              have hb5 : w4.heap[w.heap.size]? = w3.heap[w.heap.size]? := hg4.block _ hbx3 (fun e => by have := Hown'.out _ e.symm; omega)
              have q2 := (World.cell?_of_block hb5 (a := ⟨w.heap.size, 0, none⟩)).trans k2
              have q3 := (World.cell?_of_block hb5 (a := ⟨w.heap.size, 1, none⟩)).trans k3
              have hq4 : w4.heap[mq]? = some (.map (went (wopen a b nilS kq LQ)) (if whas a b LQ = true then kq else kq + 1)) := (hne4 mq hmq3 (fun _ => .inr (.inl rfl)) (.inl (Array.getElem?_eq_some_iff.1 Hn.out.qs).1)).trans Hqw3.out
              have hes := WayKey.run_entryStore (P := Try.prog) 53 nilS mq LQ kq _ a b v4 w4 Hn.out.ok hq4
              obtain ⟨w5, hw5⟩ : ∃ w5, w5 = World.setObj w4 mq (.map (went (wput a b v4 kq LQ)) (if whas a b LQ = true then kq else kq + 1)) := ⟨_, rfl⟩
              rw [← hw5] at hes
              have r1 : w5.cell? ⟨g, 1, none⟩ = some (.map (some mq)) := by rw [hw5, World.setObj_cell Hn.out.ne1]; exact q1
              have r2 : w5.cell? ⟨w.heap.size, 0, none⟩ = some (.int .i64 a) := by rw [hw5, World.setObj_cell hbq]; exact q2
              have r3 : w5.cell? ⟨w.heap.size, 1, none⟩ = some (.int .i64 b) := by rw [hw5, World.setObj_cell hbq]; exact q3
              have Hr4 := Lib.hid hr4
              have Hg4 := Lib.hid hg4
              have Hb4 := Lib.hid hb4
              have Hw5 := Lib.hid hw5
              have Hq4 := Lib.hid hq4
              clear hr4 hg4 hb4 hw5 hq4 hne4 hb5))
  go_wp2_with fail
  go_ret
  -- what has become of the world
  have f1 : Fr None' w w2.drew := (((Fr.refl None' w).alloc _).trans0 Hf.out).trans0 Hw2.out
  have hF : ∀ k : Nat, None' k → F k := fun k h => h.elim
  have f2 : Fr F w w2.drew := f1.mono (fun k _ h => h.elim)
  have hsz2 : w.heap.size ≤ w2.heap.size := f1.size
  have hn := Hn.out
  have f3 : Fr F w w3 := by rw [Hw3.out]; exact ((f2.alloc _).setObj (.inl hn.fq) _)
  have hvo : ∀ k, rowBlk (.slice A n cap) = some k → F k ∨ w.heap.size ≤ k := fun k hk => .inl (Hown.out k hk).1
  have f4 : Fr F w w4 := f3.grown Hg4.out hvo
  have f5 : Fr F w w5 := by rw [Hw5.out]; exact f4.setObj (.inl hn.fq) _
  have hs5 : w5.heap.size = w4.heap.size := by rw [Hw5.out]; exact World.setObj_size _ _ _
  refine ⟨rfl, ⟨mq, mc, _, _, LC, kc, hn.putq a b v4 (q a b ++ [t]) ?_ ?_ ?_ ?_⟩, f5⟩
  · rw [Hw5.out]; exact World.setObj_same Hq4.out
  · intro k hk hFk hne hnb
    rw [Hv.out] at hnb
    rw [Hw5.out, World.setObj_other hne]
    have g4 := Hg4.out.block k (Nat.lt_of_lt_of_le hk f3.size) (fun e => hnb e.symm)
    rw [g4, Hw3.out, World.setObj_other hne, Hhold.out k (Nat.lt_of_lt_of_le hk hsz2)]
    exact f1.block k hk (fun h => h)
  · have hr4 : Row w4 1 v4 (strs (q a b ++ [t])) := by simpa [strs] using Hr4.out
    refine hr4.kept fun k hk => ?_
    rw [Hw5.out]
    refine World.setObj_other ?_
    rcases Hb4.out with h | h
    · rw [h] at hk; exact (Hown.out k hk).2.2.1
    · rw [h] at hk; cases hk; omega
  · intro k hk
    rw [Hv.out]
    rcases Hb4.out with h | h
    · rw [h] at hk; exact .inl hk
    · refine .inr ⟨?_, ?_⟩
      · rw [h] at hk; cases hk; exact f3.size
      · rw [hs5]; exact Hr4.out.lt hk
end Go.Proofs.Ytdgcimjpggjnjaa

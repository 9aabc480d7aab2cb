/- Package escrow: another line in memory; Give. -/
import Derived.Test.YtdjaofkbgkifkaaE6
set_option linter.unusedVariables false
set_option linter.unusedSimpArgs false
namespace Go.Proofs.Ytdjaofkbgkifkaa
open Go.RowKit

/-- Other roles, the same for whatever has one. -/
theorem EscAt.role {w : World} {ρ ρ' : Nat → Role} {g : Nat} {S : ES} {vA : Value} {mb : Nat} {L : List WE} {lk : Nat} {lb : Int → Int → Nat} {vT vM : Int → Int → Value} {mz : Int → Int → List (Value × EM)}
    (h : EscAt w ρ g S vA mb L lk lb vT vM mz) (hρ : ∀ k, k < w.heap.size → ρ k ≠ .other → ρ' k = ρ k) : EscAt w ρ' g S vA mb L lk lb vT vM mz := by
  have lt : ∀ {k : Nat} {o : Obj}, w.heap[k]? = some o → k < w.heap.size := fun ho => (Array.getElem?_eq_some_iff.1 ho).1
  constructor
  · exact h.obj
  · exact h.acc
  · exact h.map
  · exact h.ok
  · exact h.val
  · exact h.line
  · exact h.tr
  · exact h.ms
  · exact h.mq
  · intro a b p q hq
    obtain ⟨A, n, cap, he, hn, h0⟩ := h.im a b p q hq
    refine ⟨A, n, cap, he, hn, fun hp => ?_⟩
    obtain ⟨g, off, h1, h2, h3, h4⟩ := h0 hp
    exact ⟨g, off, h1, by rw [hρ g h3 (by rw [h2]; simp), h2], h3, h4⟩
  · rw [hρ g (lt h.obj) (by rw [h.rg]; simp)]; exact h.rg
  · intro k hk
    rw [hρ k (h.acc.lt hk) (by rw [h.ra k hk]; simp)]; exact h.ra k hk
  · rw [hρ mb (lt h.map) (by rw [h.rm]; simp)]; exact h.rm
  · intro a b p
    rw [hρ _ (lt (h.line a b p)) (by rw [h.rl a b p]; simp)]; exact h.rl a b p
  · intro a b p k hk
    rw [hρ k ((h.tr a b p).lt hk) (by rw [h.rt a b p k hk]; simp)]; exact h.rt a b p k hk
  · intro a b p k hk
    rw [hρ k ((h.ms a b p).lt hk) (by rw [h.rs a b p k hk]; simp)]; exact h.rs a b p k hk
  · exact h.ks
  · exact h.ev
def upd2 {α : Type} (f : Int → Int → α) (a b : Int) (v : α) (x y : Int) : α := if x = a ∧ y = b then v else f x y
theorem upd2_same {α : Type} (f : Int → Int → α) (a b : Int) (v : α) : upd2 f a b v a b = v := by simp [upd2]
theorem upd2_other {α : Type} (f : Int → Int → α) (a b : Int) (v : α) (x y : Int) (h : ¬ (x = a ∧ y = b)) : upd2 f a b v x y = f x y := by simp only [upd2, if_neg h]
theorem ne_or {a b x y : Int} (h : ¬ (x = a ∧ y = b)) : x ≠ a ∨ y ≠ b := by
  by_cases hx : x = a
  · exact .inr (fun hy => h ⟨hx, hy⟩)
  · exact .inl hx
/-- Another line. -/
theorem EscAt.putLine {w w' : World} {ρ : Nat → Role} {g : Nat} {S : ES} {vA : Value} {mb : Nat} {L : List WE} {lk : Nat} {lb : Int → Int → Nat} {vT vM : Int → Int → Value} {mz : Int → Int → List (Value × EM)}
    (h : EscAt w ρ g S vA mb L lk lb vT vM mz) {a b : Int} (p : pairB S.acc.length a b = true) {l : EL} {t' M' : Value} {z' : List (Value × EM)}
    (hline : w'.heap[lb a b]? = some (.cells #[t', .int .i64 (l.all.length : Int), .int .i64 (l.rcv : Int), M'] 109)) (htr : Row w' 1 t' ((l.all.drop l.conf).flatMap icell))
    (hms : Row w' 4 M' (z'.flatMap mcells)) (hmq : z'.map (·.2) = l.ms) (him : ∀ q ∈ z', RdI ρ w' q.1 (q.2.tr l.all)) (hsz : w.heap.size ≤ w'.heap.size)
    (hk : ∀ k, k < w.heap.size → ρ k ≠ .line a b → ρ k ≠ .tr a b → ρ k ≠ .ms a b → ρ k ≠ .other → w'.heap[k]? = w.heap[k]?)
    (ht : ∀ k, rowBlk t' = some k → ρ k = .tr a b) (hM : ∀ k, rowBlk M' = some k → ρ k = .ms a b) :
    EscAt w' ρ g (S.putL a b l) vA mb L lk lb (upd2 vT a b t') (upd2 vM a b M') (upd2 mz a b z') := by
  have hh : ∀ {k : Nat} {o : Obj}, w.heap[k]? = some o → ρ k ≠ .line a b → ρ k ≠ .tr a b → ρ k ≠ .ms a b → ρ k ≠ .other → w'.heap[k]? = some o := fun ho h1 h2 h3 h4 => by rw [hk _ (Array.getElem?_eq_some_iff.1 ho).1 h1 h2 h3 h4]; exact ho
  have rne : ∀ {x y : Int}, ¬ (x = a ∧ y = b) → Role.line x y ≠ .line a b ∧ Role.tr x y ≠ .tr a b ∧ Role.ms x y ≠ .ms a b := by
    intro x y hxy
    refine ⟨?_, ?_, ?_⟩ <;> (intro e; cases e; exact hxy ⟨rfl, rfl⟩)
  have ln : ∀ {x y : Int}, ¬ (x = a ∧ y = b) → (S.putL a b l).ln x y = S.ln x y := fun hxy => ES.putL_other _ _ _ _ _ _ (ne_or hxy)
  constructor
  · exact hh h.obj (by rw [h.rg]; simp) (by rw [h.rg]; simp) (by rw [h.rg]; simp) (by rw [h.rg]; simp)
  · exact h.acc.kept (fun k hb => hk k (h.acc.lt hb) (by rw [h.ra k hb]; simp) (by rw [h.ra k hb]; simp) (by rw [h.ra k hb]; simp) (by rw [h.ra k hb]; simp))
  · exact hh h.map (by rw [h.rm]; simp) (by rw [h.rm]; simp) (by rw [h.rm]; simp) (by rw [h.rm]; simp)
  · exact h.ok
  · exact h.val
  · intro x y q
    by_cases hxy : x = a ∧ y = b
    · obtain ⟨rfl, rfl⟩ := hxy
      rw [upd2_same, upd2_same, ES.putL_same]; exact hline
    · rw [upd2_other _ _ _ _ _ _ hxy, upd2_other _ _ _ _ _ _ hxy, ln hxy]
      exact hh (h.line x y q) (by rw [h.rl x y q]; exact (rne hxy).1) (by rw [h.rl x y q]; simp) (by rw [h.rl x y q]; simp) (by rw [h.rl x y q]; simp)
  · intro x y q
    by_cases hxy : x = a ∧ y = b
    · obtain ⟨rfl, rfl⟩ := hxy
      rw [upd2_same, ES.putL_same]; exact htr
    · rw [upd2_other _ _ _ _ _ _ hxy, ln hxy]
      exact (h.tr x y q).kept (fun k hb => hk k ((h.tr x y q).lt hb) (by rw [h.rt x y q k hb]; simp) (by rw [h.rt x y q k hb]; exact (rne hxy).2.1) (by rw [h.rt x y q k hb]; simp) (by rw [h.rt x y q k hb]; simp))
  · intro x y q
    by_cases hxy : x = a ∧ y = b
    · obtain ⟨rfl, rfl⟩ := hxy
      rw [upd2_same, upd2_same]; exact hms
    · rw [upd2_other _ _ _ _ _ _ hxy, upd2_other _ _ _ _ _ _ hxy]
      exact (h.ms x y q).kept (fun k hb => hk k ((h.ms x y q).lt hb) (by rw [h.rs x y q k hb]; simp) (by rw [h.rs x y q k hb]; simp) (by rw [h.rs x y q k hb]; exact (rne hxy).2.2) (by rw [h.rs x y q k hb]; simp))
  · intro x y q
    by_cases hxy : x = a ∧ y = b
    · obtain ⟨rfl, rfl⟩ := hxy
      rw [upd2_same, ES.putL_same]; exact hmq
    · rw [upd2_other _ _ _ _ _ _ hxy, ln hxy]; exact h.mq x y q
  · intro x y q
    by_cases hxy : x = a ∧ y = b
    · obtain ⟨rfl, rfl⟩ := hxy
      rw [upd2_same, ES.putL_same]; exact him
    · rw [upd2_other _ _ _ _ _ _ hxy, ln hxy]
      exact fun z hz => (h.im x y q z hz).keep hsz (fun k hb hi => hk k hb (by rw [hi]; simp) (by rw [hi]; simp) (by rw [hi]; simp) (by rw [hi]; simp))
  · exact h.rg
  · exact h.ra
  · exact h.rm
  · exact h.rl
  · intro x y q
    by_cases hxy : x = a ∧ y = b
    · obtain ⟨rfl, rfl⟩ := hxy
      rw [upd2_same]; exact ht
    · rw [upd2_other _ _ _ _ _ _ hxy]; exact h.rt x y q
  · intro x y q
    by_cases hxy : x = a ∧ y = b
    · obtain ⟨rfl, rfl⟩ := hxy
      rw [upd2_same]; exact hM
    · rw [upd2_other _ _ _ _ _ _ hxy]; exact h.rs x y q
  · exact h.ks
  · exact h.ev
/-- The facts of a line. -/
theorem EscAt.lcells {w : World} {ρ : Nat → Role} {g : Nat} {S : ES} {vA : Value} {mb : Nat} {L : List WE} {lk : Nat} {lb : Int → Int → Nat} {vT vM : Int → Int → Value} {mz : Int → Int → List (Value × EM)}
    (h : EscAt w ρ g S vA mb L lk lb vT vM mz) {a b : Int} (p : pairB S.acc.length a b = true) : w.cell? ⟨lb a b, 0, none⟩ = some (vT a b) ∧ w.cell? ⟨lb a b, 1, none⟩ = some (.int .i64 ((S.ln a b).all.length : Int)) ∧
      w.cell? ⟨lb a b, 2, none⟩ = some (.int .i64 ((S.ln a b).rcv : Int)) ∧ w.cell? ⟨lb a b, 3, none⟩ = some (vM a b) ∧ (∀ o, w.frozen? ⟨lb a b, o, none⟩ = false) := four_cells (h.line a b p)
theorem tr_form {w : World} {v : Value} {l : EL} (h : Row w 1 v ((l.all.drop l.conf).flatMap icell)) : ∃ A cap, v = .slice A (l.all.length - l.conf) cap := by
  obtain ⟨A, n, cap, rfl, hn⟩ := h.form
  rw [flat_length _ 1 icell_len, List.length_drop] at hn
  obtain rfl : n = l.all.length - l.conf := by omega
  exact ⟨A, cap, rfl⟩
theorem ms_form {w : World} {v : Value} {z : List (Value × EM)} {ms : List EM} (h : Row w 4 v (z.flatMap mcells)) (hq : z.map (·.2) = ms) : ∃ A cap, v = .slice A ms.length cap := by
  obtain ⟨A, n, cap, rfl, hn⟩ := h.form
  rw [flat_length _ 4 mcells_len] at hn
  obtain rfl : n = ms.length := by rw [← hq, List.length_map]; omega
  exact ⟨A, cap, rfl⟩

theorem give_arg1 {w : World} {ρ : Nat → Role} {g : Nat} {S : ES} {vA : Value} {mb : Nat} {L : List WE} {lk : Nat} {lb : Int → Int → Nat} {vT vM : Int → Int → Value} {mz : Int → Int → List (Value × EM)}
    (h : EscAt w ρ g S vA mb L lk lb vT vM mz) (a b k : Int) (hp : pairB S.acc.length a b = false ∨ k < 1) : Calls Try.prog 27 #[.pointer (some ⟨g, 0, none⟩), .int .i64 a, .int .i64 b, .int .i64 k] w fun e w' => e = .returned (.int .i64 1) ∧ w' = w := by
  have H := line_ok h a b
  cases hpp : pairB S.acc.length a b with
  | false =>
    rw [hpp] at H
    have H := Lib.hid H
    clear h hp hpp
    go_enter Try.func27, Try.ntmps27
    go_wp2_with fail
    refine H.out.mono ?_
    rintro e w' ⟨rfl, rfl⟩
    go_wp2_with fail
    go_ret
    exact ⟨rfl, rfl⟩
  | true =>
    rw [hpp] at H
    have hk : k < 1 := by rcases hp with h | h; rw [hpp] at h; cases h; exact h
    have H := Lib.hid H
    clear h hp hpp
    go_enter Try.func27, Try.ntmps27
    go_wp2_with fail
    refine H.out.mono ?_
    rintro e w' ⟨rfl, rfl⟩
    go_wp2_with fail
    go_ret
    exact ⟨rfl, rfl⟩
/-- A walk's facts of an account's place. -/
theorem give_no {U : Int} {t : Nat} {w : World} {ρ : Nat → Role} {g : Nat} {S : ES} {vA : Value} {mb : Nat} {L : List WE} {lk : Nat} {lb : Int → Int → Nat} {vT vM : Int → Int → Value} {mz : Int → Int → List (Value × EM)}
    (h : EscAt w ρ g S vA mb L lk lb vT vM mz) (hI : Inv U t S) (a b k : Int) (hp : pairB S.acc.length a b = true) (hk : 1 ≤ k) (x : Int) (hx : x = 19 ∧ (S.ac a).u < k ∨ x = 28 ∧ k ≤ (S.ac a).u ∧ (S.ln a b).conf + 100 ≤ (S.ln a b).all.length) :
    Calls Try.prog 27 #[.pointer (some ⟨g, 0, none⟩), .int .i64 a, .int .i64 b, .int .i64 k] w fun e w' => e = .returned (.int .i64 x) ∧ w' = w := by
  have H := line_ok h a b
  rw [hp] at H
  obtain ⟨c0, _⟩ := h.cells
  have ha := pairB_left hp
  have hac := ES.ac_get ha
  obtain ⟨l0, l1, l2, l3, lf⟩ := h.lcells hp
  obtain ⟨A, cap, hv⟩ := tr_form (h.tr a b hp)
  rw [hv] at l0
  obtain ⟨r, y, rfl, hy⟩ := isB_get ha
  have hye : S.ac (r : Int) = y := by simpa [hy] using hac.symm
  obtain ⟨ga, off, acap, rfl, hbk, u0, u1, u2, ufr⟩ := acc_get h.acc (by have := hI.sh.n8; omega) hy
  have hr : r < S.acc.length := (List.getElem?_eq_some_iff.1 hy).1
  rw [hye] at hx
  have HL := Lib.hid (show Calls Try.prog 71 #[.pointer (some ⟨g, 0, none⟩), .int .i64 r, .int .i64 b] w fun e w' => e = .returned (.pointer (some ⟨lb r b, 0, none⟩)) ∧ w' = w from H)
  clear H
  have hk0 : ¬ k < 1 := by omega
  have i0 : ¬ (r : Int) < 0 := by omega
  have i1 : (r : Int) < S.acc.length := by omega
  generalize S.acc.length = n at *
  rcases hx with ⟨rfl, hx⟩ | ⟨rfl, hx, hx2⟩
  · clear h hI hp hk ha hac hye hy hv hr
    go_enter Try.func27, Try.ntmps27
    go_wp2_with fail
    refine HL.out.mono ?_
    rintro e w' ⟨rfl, rfl⟩
    go_wp2_with fail
    go_ret
    exact ⟨rfl, rfl⟩
  · have hx0 : ¬ y.u < k := by omega
    have hx3 : (100 : Int) ≤ (((S.ln r b).all.length - (S.ln r b).conf : Nat) : Int) := by omega
    generalize (S.ln r b).all.length - (S.ln r b).conf = q at *
    clear h hI hp hk ha hac hye hy hv hr hx hx2
    go_enter Try.func27, Try.ntmps27
    go_wp2_with fail
    refine HL.out.mono ?_
    rintro e w' ⟨rfl, rfl⟩
    go_wp2_with fail
    go_ret
    exact ⟨rfl, rfl⟩
end Go.Proofs.Ytdjaofkbgkifkaa

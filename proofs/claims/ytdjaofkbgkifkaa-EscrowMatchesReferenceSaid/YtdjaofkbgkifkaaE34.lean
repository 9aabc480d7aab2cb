/- The reference of chapter 36: Revoke, Spend, Return. -/
import Derived.Test.YtdjaofkbgkifkaaE33
set_option linter.unusedVariables false
set_option linter.unusedSimpArgs false
namespace Go.Proofs.Ytdjaofkbgkifkaa
open Go.RowKit

/-- Another element of one of the lists. -/
theorem flat_putA {f : Acc → List Value} (hf : ∀ x, (f x).length = 1) {l : List Acc} {r : Nat} {x x' : Acc} {u : Value} (hx : l[r]? = some x) (hu : f x' = [u]) {w : World} {g off n cap : Nat} (h : Row w 1 (.slice (some ⟨g, off, none⟩) n cap) (l.flatMap f)) :
    Row (w.setCell ⟨g, off + r, none⟩ u) 1 (.slice (some ⟨g, off, none⟩) n cap) ((l.set r x').flatMap f) := by
  have := h.put (f := f) hf (i := r) (j := 0) (x := x) (x' := x') (u := u) hx (by decide) (by
    have h1 := hf x
    match hfx : f x, h1 with
    | [y], _ => rw [hu]; rfl)
  rw [Nat.mul_one, Nat.add_zero] at this
  exact this
theorem flat_same {f : Acc → List Value} {l : List Acc} {r : Nat} {x x' : Acc} (hx : l[r]? = some x) (hu : f x' = f x) : (l.set r x').flatMap f = l.flatMap f := by
  induction l generalizing r with
  | nil => rfl
  | cons y l ih =>
    cases r with
    | zero => simp at hx; subst hx; simp only [List.set_cons_zero, List.flatMap_cons, hu]
    | succ r => simp only [List.set_cons_succ, List.flatMap_cons]; rw [ih (by simpa using hx)]
theorem rrevoke_ok {w : World} {F : Nat → Prop} {g : Nat} {S : ES} (h : RefIs w F g S) (i : Int) :
    Calls Try.prog 81 #[.pointer (some ⟨g, 0, none⟩), .int .i64 i] w (RPost w F g (.int .i64 (eRevoke S i).1) (eRevoke S i).2) := by
  have h0 := h
  obtain ⟨ρ, vU, vS, vR, vP, vr, vT, vM, mz, h, hF⟩ := h
  obtain ⟨c0, c1, c2, _⟩ := h.cells
  obtain ⟨A, cap, rfl⟩ := arr_form ucell_len h.un
  have H := Lib.hid (is_at c0 i)
  cases hi : isB S.acc.length i with
  | false =>
    have e : eRevoke S i = (1, S) := by unfold eRevoke; rw [if_pos hi]
    rw [e]
    rw [hi] at H
    have H0 := Lib.hid h0
    clear h hi h0 e
    go_enter Try.func81, Try.ntmps81
    go_wp2_with fail
    refine H.out.mono ?_
    rintro e w' ⟨rfl, rfl⟩
    go_wp2_with fail
    go_ret
    exact RPost.same H0.out ⟨rfl, rfl⟩
  | true =>
    have e : eRevoke S i = (0, S.putA i ⟨(S.ac i).u, (S.ac i).s, true⟩) := by unfold eRevoke; rw [if_neg (by rw [hi]; simp)]
    rw [e]
    rw [hi] at H
    have hx := ES.ac_get hi
    obtain ⟨r, x, rfl, _⟩ := isB_get hi
    rw [Int.toNat_natCast] at hx
    obtain ⟨ga, off, cap', rfl, hb, u0, uf⟩ := arr_get rcell_len h.re hx rfl
    have hr : r < S.acc.length := (List.getElem?_eq_some_iff.1 hx).1
    have h1 : (r : Int) < S.acc.length := by omega
    have h2 : ¬ (r : Int) < 0 := by omega
    have E2 : RefAt (w.setCell ⟨ga, off + r, none⟩ (.bool true)) ρ g (S.putA r ⟨(S.ac r).u, (S.ac r).s, true⟩) (.slice A S.acc.length cap) vS (.slice (some ⟨ga, off, none⟩) S.acc.length cap') vP vr vT vM mz := by
      have hroles := h.rr ga hb
      have hne : ∀ k, ρ k ≠ .re → k ≠ ga := fun k hk e => hk (by rw [e]; exact hroles)
      refine h.putArr rfl (by simp) ?_ ?_ ?_ (by rw [setCell_size]; exact Nat.le_refl _) (fun k _ _ _ h3 _ => setCell_other (hne k h3))
      · simp only [ES.putA, Int.toNat_natCast]
        rw [flat_same (f := ucell) (x' := ⟨(S.ac r).u, (S.ac r).s, true⟩) hx rfl]
        exact h.un.kept (fun k hk => setCell_other (hne k (by rw [h.ru k hk]; simp)))
      · simp only [ES.putA, Int.toNat_natCast]
        rw [flat_same (f := scell) (x' := ⟨(S.ac r).u, (S.ac r).s, true⟩) hx rfl]
        exact h.us.kept (fun k hk => setCell_other (hne k (by rw [h.rs k hk]; simp)))
      · exact flat_putA rcell_len hx rfl h.re
    have HE := Lib.hid E2
    have HF := Lib.hid hF
    have HFa := Lib.hid (hF ga (by rw [h.rr ga hb]; simp))
    clear h hi hx hr h0 e E2 hb
    go_enter Try.func81, Try.ntmps81
    go_wp2_with fail
    refine H.out.mono ?_
    rintro e w' ⟨rfl, rfl⟩
    go_wp2_with fail
    go_ret
    exact ⟨rfl, ⟨ρ, _, _, _, _, _, _, _, _, HE.out, fun k hk => .inl (HF.out k hk)⟩, (Fr.refl F _).setCell (.inl HFa.out) _⟩
/-- The units and what is spent of an account. -/
theorem RefAt.put2 {w : World} {ρ : Nat → RR} {g : Nat} {S : ES} {gu ou nu cu gs os ns cs : Nat} {vR vP : Value} {vr : Nat → Value} {vT vM : Nat → Nat → Value} {mz : Nat → Nat → List (Value × EM)}
    (h : RefAt w ρ g S (.slice (some ⟨gu, ou, none⟩) nu cu) (.slice (some ⟨gs, os, none⟩) ns cs) vR vP vr vT vM mz) (hbu : rowBlk (.slice (some ⟨gu, ou, none⟩) nu cu) = some gu) (hbs : rowBlk (.slice (some ⟨gs, os, none⟩) ns cs) = some gs) {r : Nat} {x : Acc} (hx : S.acc[r]? = some x) (u s : Int) :
    RefAt ((w.setCell ⟨gu, ou + r, none⟩ (.int .i64 u)).setCell ⟨gs, os + r, none⟩ (.int .i64 s)) ρ g (S.putA r ⟨u, s, x.r⟩) (.slice (some ⟨gu, ou, none⟩) nu cu) (.slice (some ⟨gs, os, none⟩) ns cs) vR vP vr vT vM mz := by
  have r1 := h.ru gu hbu
  have r2 := h.rs gs hbs
  have hne : gu ≠ gs := fun e => by rw [e, r2] at r1; cases r1
  have n1 : ∀ k, ρ k ≠ .un → k ≠ gu := fun k hk e => hk (by rw [e]; exact r1)
  have n2 : ∀ k, ρ k ≠ .us → k ≠ gs := fun k hk e => hk (by rw [e]; exact r2)
  have hk : r < S.acc.length := (List.getElem?_eq_some_iff.1 hx).1
  refine h.putArr rfl (by simp) ?_ ?_ ?_ (by rw [setCell_size, setCell_size]; exact Nat.le_refl _) (fun k _ h1 h2 _ _ => by rw [setCell_other (n2 k h2), setCell_other (n1 k h1)])
  · have h1 := flat_putA ucell_len (x' := ⟨u, s, x.r⟩) hx rfl h.un (u := .int .i64 u)
    exact h1.kept (fun k hk => setCell_other (by
      have : k = gu := by rw [hbu] at hk; exact (Option.some.inj hk).symm
      rw [this]; exact hne))
  · have h1 : Row (w.setCell ⟨gu, ou + r, none⟩ (.int .i64 u)) 1 (.slice (some ⟨gs, os, none⟩) ns cs) (S.acc.flatMap scell) := h.us.kept (fun k hk => setCell_other (by
      have : k = gs := by rw [hbs] at hk; exact (Option.some.inj hk).symm
      rw [this]; exact hne.symm))
    exact flat_putA scell_len (x' := ⟨u, s, x.r⟩) hx rfl h1 (u := .int .i64 s)
  · simp only [ES.putA, Int.toNat_natCast]
    rw [flat_same (f := rcell) (x' := ⟨u, s, x.r⟩) hx rfl]
    exact h.re.kept (fun k hk => by rw [setCell_other (n2 k (by rw [h.rr k hk]; simp)), setCell_other (n1 k (by rw [h.rr k hk]; simp))])
theorem rspend_no {w : World} {g : Nat} {A : Option Addr} {n cap : Nat} (c0 : w.cell? ⟨g, 0, none⟩ = some (.slice A n cap)) (i k : Int) (h : isB n i = false ∨ k < 1) (hlt : k ≤ 9223372036854775807) :
    Calls Try.prog 76 #[.pointer (some ⟨g, 0, none⟩), .int .i64 i, .int .i64 k] w fun e w' => e = .returned (.int .i64 1) ∧ w' = w := by
  have H := is_at c0 i
  cases hi : isB n i with
  | false =>
    rw [hi] at H
    have H := Lib.hid H
    clear h hi
    go_enter Try.func76, Try.ntmps76
    go_wp2_with fail
    refine H.out.mono ?_
    rintro e w' ⟨rfl, rfl⟩
    go_wp2_with fail
    go_ret
    exact ⟨rfl, rfl⟩
  | true =>
    rw [hi] at H
    have hk : k < 1 := by rcases h with h | h; rw [hi] at h; cases h; exact h
    have H := Lib.hid H
    clear h hi
    go_enter Try.func76, Try.ntmps76
    go_wp2_with fail
    refine H.out.mono ?_
    rintro e w' ⟨rfl, rfl⟩
    go_wp2_with fail
    go_ret
    exact ⟨rfl, rfl⟩
set_option maxHeartbeats 4000000 in
set_option maxRecDepth 100000 in
theorem rspend_do {w : World} {g gu ou cu gs os cs gr orr cr n : Nat} (c0 : w.cell? ⟨g, 0, none⟩ = some (.slice (some ⟨gu, ou, none⟩) n cu)) (c1 : w.cell? ⟨g, 1, none⟩ = some (.slice (some ⟨gs, os, none⟩) n cs)) (c2 : w.cell? ⟨g, 2, none⟩ = some (.slice (some ⟨gr, orr, none⟩) n cr))
    {r : Nat} (hr : r < n) (k u s : Int) (hk : 1 ≤ k) (u0 : w.cell? ⟨gu, ou + r, none⟩ = some (.int .i64 u)) (s0 : w.cell? ⟨gs, os + r, none⟩ = some (.int .i64 s)) (r0 : w.cell? ⟨gr, orr + r, none⟩ = some (.bool false)) (hu : k ≤ u) (hu2 : u ≤ 1000000000) (hs0 : 0 ≤ s) (hs : s + k ≤ 1000000000)
    (hfu : ∀ o, w.frozen? ⟨gu, o, none⟩ = false) (hfs : ∀ o, w.frozen? ⟨gs, o, none⟩ = false) (n1 : g ≠ gu) (n2 : gs ≠ gu) (n3 : g ≠ gs) :
    Calls Try.prog 76 #[.pointer (some ⟨g, 0, none⟩), .int .i64 r, .int .i64 k] w fun e w' => e = .returned (.int .i64 0) ∧ ∃ m, w' = ((w.setCell ⟨gu, ou + r, none⟩ (.int .i64 (u - k))).setCell ⟨gs, os + r, none⟩ (.int .i64 (s + k))).drewN m := by
  have H := is_at c0 (r : Int)
  rw [show isB n (r : Int) = true by simp only [isB, decide_eq_true_eq]; omega] at H
  have H := Lib.hid H
  have w1 : IntKind.i64.wrap (u - k) = u - k := by rw [IntKind.wrap_i64]; omega
  have w2 : IntKind.i64.wrap (s + k) = s + k := by rw [IntKind.wrap_i64]; omega
  have h0 : ¬ (r : Int) < 0 := by omega
  have h1 : (r : Int) < n := by omega
  have hk1 : ¬ k < 1 := by omega
  have hu1 : ¬ u < k := by omega
  have n1' : ¬ g = gu := n1
  have n2' : ¬ gs = gu := n2
  have n3' : ¬ g = gs := n3
  clear n1 n2 n3 hr hu2 hs0 hs
  go_enter Try.func76, Try.ntmps76
  go_wp2_with fail
  refine H.out.mono ?_
  rintro e w' ⟨rfl, rfl⟩
  go_wp2_with fail
  go_still_tail 14, (by kernel_rfl)
  change wpList _ _ _ _ _ w'.drew
  have d1 : (w'.setCell ⟨gu, ou + r, none⟩ (.int .i64 (u - k))).drew.cell? ⟨g, 1, none⟩ = some (.slice (some ⟨gs, os, none⟩) n cs) := by
    exact (World.cell?_of_block (setCell_other (w := w') (p := ⟨gu, ou + r, none⟩) (u := .int .i64 (u - k)) (k := g) n1')).trans c1
  have d2 : (w'.setCell ⟨gu, ou + r, none⟩ (.int .i64 (u - k))).drew.cell? ⟨gs, os + r, none⟩ = some (.int .i64 s) := by
    exact (World.cell?_of_block (setCell_other (w := w') (p := ⟨gu, ou + r, none⟩) (u := .int .i64 (u - k)) (k := gs) n2')).trans s0
  have d3 : ∀ o, (w'.setCell ⟨gu, ou + r, none⟩ (.int .i64 (u - k))).drew.frozen? ⟨gs, o, none⟩ = false := fun o => by
    have := hfs o
    unfold World.frozen? at this ⊢
    rw [show (w'.setCell ⟨gu, ou + r, none⟩ (.int .i64 (u - k))).drew.heap[gs]? = w'.heap[gs]? from setCell_other (w := w') (p := ⟨gu, ou + r, none⟩) (u := .int .i64 (u - k)) (k := gs) n2']
    exact this
  go_wp2_with fail
  clear c0 c1 c2 u0 s0 r0 hfu hfs
  generalize hW : (w'.setCell ⟨gu, ou + r, none⟩ (.int .i64 (u - k))).drew = W at *
  have HW := Lib.hid hW
  clear hW
  go_still_tail 14, (by kernel_rfl)
  change wpList _ _ _ _ _ W.drew
  go_wp2_with fail
  go_ret
  exact ⟨rfl, 2, by rw [← HW.out]; rfl⟩
theorem rspend_forbid {w : World} {g gu ou cu gs os cs gr orr cr n : Nat} (c0 : w.cell? ⟨g, 0, none⟩ = some (.slice (some ⟨gu, ou, none⟩) n cu)) (c1 : w.cell? ⟨g, 1, none⟩ = some (.slice (some ⟨gs, os, none⟩) n cs)) (c2 : w.cell? ⟨g, 2, none⟩ = some (.slice (some ⟨gr, orr, none⟩) n cr))
    {r : Nat} (hr : r < n) (k u s : Int) (hk : 1 ≤ k) (u0 : w.cell? ⟨gu, ou + r, none⟩ = some (.int .i64 u)) (s0 : w.cell? ⟨gs, os + r, none⟩ = some (.int .i64 s)) (r0 : w.cell? ⟨gr, orr + r, none⟩ = some (.bool true)) :
    Calls Try.prog 76 #[.pointer (some ⟨g, 0, none⟩), .int .i64 r, .int .i64 k] w fun e w' => e = .returned (.int .i64 22) ∧ w' = w := by
  have H := is_at c0 (r : Int)
  rw [show isB n (r : Int) = true by simp only [isB, decide_eq_true_eq]; omega] at H
  have H := Lib.hid H
  have h0 : ¬ (r : Int) < 0 := by omega
  have h1 : (r : Int) < n := by omega
  have hk1 : ¬ k < 1 := by omega
  clear hr
  go_enter Try.func76, Try.ntmps76
  go_wp2_with fail
  refine H.out.mono ?_
  rintro e w' ⟨rfl, rfl⟩
  go_wp2_with fail
  go_ret
  exact ⟨rfl, rfl⟩
theorem rspend_quota {w : World} {g gu ou cu gs os cs gr orr cr n : Nat} (c0 : w.cell? ⟨g, 0, none⟩ = some (.slice (some ⟨gu, ou, none⟩) n cu)) (c1 : w.cell? ⟨g, 1, none⟩ = some (.slice (some ⟨gs, os, none⟩) n cs)) (c2 : w.cell? ⟨g, 2, none⟩ = some (.slice (some ⟨gr, orr, none⟩) n cr))
    {r : Nat} (hr : r < n) (k u s : Int) (hk : 1 ≤ k) (u0 : w.cell? ⟨gu, ou + r, none⟩ = some (.int .i64 u)) (s0 : w.cell? ⟨gs, os + r, none⟩ = some (.int .i64 s)) (r0 : w.cell? ⟨gr, orr + r, none⟩ = some (.bool false)) (hq : u < k) :
    Calls Try.prog 76 #[.pointer (some ⟨g, 0, none⟩), .int .i64 r, .int .i64 k] w fun e w' => e = .returned (.int .i64 19) ∧ w' = w := by
  have H := is_at c0 (r : Int)
  rw [show isB n (r : Int) = true by simp only [isB, decide_eq_true_eq]; omega] at H
  have H := Lib.hid H
  have h0 : ¬ (r : Int) < 0 := by omega
  have h1 : (r : Int) < n := by omega
  have hk1 : ¬ k < 1 := by omega
  clear hr
  go_enter Try.func76, Try.ntmps76
  go_wp2_with fail
  refine H.out.mono ?_
  rintro e w' ⟨rfl, rfl⟩
  go_wp2_with fail
  go_ret
  exact ⟨rfl, rfl⟩
theorem rreturn_quota {w : World} {g gu ou cu gs os cs gr orr cr n : Nat} (c0 : w.cell? ⟨g, 0, none⟩ = some (.slice (some ⟨gu, ou, none⟩) n cu)) (c1 : w.cell? ⟨g, 1, none⟩ = some (.slice (some ⟨gs, os, none⟩) n cs)) (c2 : w.cell? ⟨g, 2, none⟩ = some (.slice (some ⟨gr, orr, none⟩) n cr))
    {r : Nat} (hr : r < n) (k u s : Int) (hk : 1 ≤ k) (u0 : w.cell? ⟨gu, ou + r, none⟩ = some (.int .i64 u)) (s0 : w.cell? ⟨gs, os + r, none⟩ = some (.int .i64 s)) (hq : s < k) :
    Calls Try.prog 77 #[.pointer (some ⟨g, 0, none⟩), .int .i64 r, .int .i64 k] w fun e w' => e = .returned (.int .i64 19) ∧ w' = w := by
  have H := is_at c0 (r : Int)
  rw [show isB n (r : Int) = true by simp only [isB, decide_eq_true_eq]; omega] at H
  have H := Lib.hid H
  have h0 : ¬ (r : Int) < 0 := by omega
  have h1 : (r : Int) < n := by omega
  have hk1 : ¬ k < 1 := by omega
  clear hr
  go_enter Try.func77, Try.ntmps77
  go_wp2_with fail
  refine H.out.mono ?_
  rintro e w' ⟨rfl, rfl⟩
  go_wp2_with fail
  go_ret
  exact ⟨rfl, rfl⟩
theorem rreturn_no {w : World} {g : Nat} {A : Option Addr} {n cap : Nat} (c0 : w.cell? ⟨g, 0, none⟩ = some (.slice A n cap)) (i k : Int) (h : isB n i = false ∨ k < 1) (hlt : k ≤ 9223372036854775807) :
    Calls Try.prog 77 #[.pointer (some ⟨g, 0, none⟩), .int .i64 i, .int .i64 k] w fun e w' => e = .returned (.int .i64 1) ∧ w' = w := by
  have H := is_at c0 i
  cases hi : isB n i with
  | false =>
    rw [hi] at H
    have H := Lib.hid H
    clear h hi
    go_enter Try.func77, Try.ntmps77
    go_wp2_with fail
    refine H.out.mono ?_
    rintro e w' ⟨rfl, rfl⟩
    go_wp2_with fail
    go_ret
    exact ⟨rfl, rfl⟩
  | true =>
    rw [hi] at H
    have hk : k < 1 := by rcases h with h | h; rw [hi] at h; cases h; exact h
    have H := Lib.hid H
    clear h hi
    go_enter Try.func77, Try.ntmps77
    go_wp2_with fail
    refine H.out.mono ?_
    rintro e w' ⟨rfl, rfl⟩
    go_wp2_with fail
    go_ret
    exact ⟨rfl, rfl⟩
set_option maxHeartbeats 4000000 in
set_option maxRecDepth 100000 in
theorem rreturn_do {w : World} {g gu ou cu gs os cs gr orr cr n : Nat} (c0 : w.cell? ⟨g, 0, none⟩ = some (.slice (some ⟨gu, ou, none⟩) n cu)) (c1 : w.cell? ⟨g, 1, none⟩ = some (.slice (some ⟨gs, os, none⟩) n cs)) (c2 : w.cell? ⟨g, 2, none⟩ = some (.slice (some ⟨gr, orr, none⟩) n cr))
    {r : Nat} (hr : r < n) (k u s : Int) (hk : 1 ≤ k) (u0 : w.cell? ⟨gu, ou + r, none⟩ = some (.int .i64 u)) (s0 : w.cell? ⟨gs, os + r, none⟩ = some (.int .i64 s)) (hu : k ≤ s) (hu2 : s ≤ 1000000000) (hs0 : 0 ≤ u) (hs : u + k ≤ 1000000000)
    (hfu : ∀ o, w.frozen? ⟨gu, o, none⟩ = false) (hfs : ∀ o, w.frozen? ⟨gs, o, none⟩ = false) (n1 : g ≠ gu) (n2 : gs ≠ gu) (n3 : g ≠ gs) :
    Calls Try.prog 77 #[.pointer (some ⟨g, 0, none⟩), .int .i64 r, .int .i64 k] w fun e w' => e = .returned (.int .i64 0) ∧ ∃ m, w' = ((w.setCell ⟨gu, ou + r, none⟩ (.int .i64 (u + k))).setCell ⟨gs, os + r, none⟩ (.int .i64 (s - k))).drewN m := by
  have H := is_at c0 (r : Int)
  rw [show isB n (r : Int) = true by simp only [isB, decide_eq_true_eq]; omega] at H
  have H := Lib.hid H
  have w1 : IntKind.i64.wrap (u + k) = u + k := by rw [IntKind.wrap_i64]; omega
  have w2 : IntKind.i64.wrap (s - k) = s - k := by rw [IntKind.wrap_i64]; omega
  have h0 : ¬ (r : Int) < 0 := by omega
  have h1 : (r : Int) < n := by omega
  have hk1 : ¬ k < 1 := by omega
  have hu1 : ¬ s < k := by omega
  have n1' : ¬ g = gu := n1
  have n2' : ¬ gs = gu := n2
  have n3' : ¬ g = gs := n3
  clear n1 n2 n3 hr hu2 hs0 hs
  go_enter Try.func77, Try.ntmps77
  go_wp2_with fail
  refine H.out.mono ?_
  rintro e w' ⟨rfl, rfl⟩
  go_wp2_with fail
  go_still_tail 14, (by kernel_rfl)
  change wpList _ _ _ _ _ w'.drew
  have d1 : (w'.setCell ⟨gu, ou + r, none⟩ (.int .i64 (u + k))).drew.cell? ⟨g, 1, none⟩ = some (.slice (some ⟨gs, os, none⟩) n cs) := by
    exact (World.cell?_of_block (setCell_other (w := w') (p := ⟨gu, ou + r, none⟩) (u := .int .i64 (u + k)) (k := g) n1')).trans c1
  have d2 : (w'.setCell ⟨gu, ou + r, none⟩ (.int .i64 (u + k))).drew.cell? ⟨gs, os + r, none⟩ = some (.int .i64 s) := by
    exact (World.cell?_of_block (setCell_other (w := w') (p := ⟨gu, ou + r, none⟩) (u := .int .i64 (u + k)) (k := gs) n2')).trans s0
  have d3 : ∀ o, (w'.setCell ⟨gu, ou + r, none⟩ (.int .i64 (u + k))).drew.frozen? ⟨gs, o, none⟩ = false := fun o => by
    have := hfs o
    unfold World.frozen? at this ⊢
    rw [show (w'.setCell ⟨gu, ou + r, none⟩ (.int .i64 (u + k))).drew.heap[gs]? = w'.heap[gs]? from setCell_other (w := w') (p := ⟨gu, ou + r, none⟩) (u := .int .i64 (u + k)) (k := gs) n2']
    exact this
  go_wp2_with fail
  clear c0 c1 c2 u0 s0 hfu hfs
  generalize hW : (w'.setCell ⟨gu, ou + r, none⟩ (.int .i64 (u + k))).drew = W at *
  have HW := Lib.hid hW
  clear hW
  go_still_tail 14, (by kernel_rfl)
  change wpList _ _ _ _ _ W.drew
  go_wp2_with fail
  go_ret
  exact ⟨rfl, 2, by rw [← HW.out]; rfl⟩
theorem RefAt.drewN {w : World} {ρ : Nat → RR} {g : Nat} {S : ES} {vU vS vR vP : Value} {vr : Nat → Value} {vT vM : Nat → Nat → Value} {mz : Nat → Nat → List (Value × EM)}
    (h : RefAt w ρ g S vU vS vR vP vr vT vM mz) (m : Nat) : RefAt (w.drewN m) ρ g S vU vS vR vP vr vT vM mz := h.fr ((Fr.refl None' w).drewN m) (fun _ _ h => h)
theorem rspend_ok {U : Int} {t : Nat} {w : World} {F : Nat → Prop} {g : Nat} {S : ES} (h : RefIs w F g S) (hU : U ≤ 1000000000) (hI : Inv U t S) (i k : Int) (hk2 : k ≤ 9223372036854775807) :
    Calls Try.prog 76 #[.pointer (some ⟨g, 0, none⟩), .int .i64 i, .int .i64 k] w (RPost w F g (.int .i64 (eSpend S i k).1) (eSpend S i k).2) := by
  have h0 := h
  obtain ⟨ρ, vU, vS, vR, vP, vr, vT, vM, mz, h, hF⟩ := h
  obtain ⟨c0, c1, c2, _⟩ := h.cells
  by_cases hn : isB S.acc.length i = false ∨ k < 1
  · have e : eSpend S i k = (1, S) := by unfold eSpend; rw [if_pos hn]
    rw [e]
    obtain ⟨A, cap, rfl⟩ := arr_form ucell_len h.un
    exact (rspend_no c0 i k hn hk2).mono fun _ _ he => RPost.same h0 he
  · have hi : isB S.acc.length i = true := by cases e : isB S.acc.length i with | true => rfl | false => exact absurd (.inl e) hn
    have hk : 1 ≤ k := by omega
    have hb := hI.bound hi
    have hx := ES.ac_get hi
    obtain ⟨r, x, rfl, _⟩ := isB_get hi
    rw [Int.toNat_natCast] at hx
    have hr : r < S.acc.length := (List.getElem?_eq_some_iff.1 hx).1
    obtain ⟨gu, ou, cu, rfl, bu, u0, fu⟩ := arr_get ucell_len h.un hx rfl
    obtain ⟨gs, os, cs, rfl, bs, s0, fs⟩ := arr_get scell_len h.us hx rfl
    obtain ⟨gr, orr, cr, rfl, br, r0, _⟩ := arr_get rcell_len h.re hx rfl
    have r1 := h.ru gu bu
    have r2 := h.rs gs bs
    have n1 : g ≠ gu := fun e => by have := h.rg; rw [e, r1] at this; cases this
    have n2 : gs ≠ gu := fun e => by rw [e, r1] at r2; cases r2
    have n3 : g ≠ gs := fun e => by have := h.rg; rw [e, r2] at this; cases this
    cases hrv : (S.ac r).r with
    | true =>
      have e : eSpend S r k = (22, S) := by unfold eSpend; rw [if_neg hn, if_pos hrv]
      rw [e]
      exact (rspend_forbid c0 c1 c2 hr k _ _ hk u0 s0 (by rw [r0, hrv])).mono fun _ _ he => RPost.same h0 he
    | false =>
      rw [hrv] at r0
      by_cases hq : (S.ac r).u < k
      · have e : eSpend S r k = (19, S) := by unfold eSpend; rw [if_neg hn, if_neg (by rw [hrv]; simp), if_pos hq]
        rw [e]
        exact (rspend_quota c0 c1 c2 hr k _ _ hk u0 s0 r0 hq).mono fun _ _ he => RPost.same h0 he
      · have e : eSpend S r k = (0, S.putA r ⟨(S.ac r).u - k, (S.ac r).s + k, (S.ac r).r⟩) := by unfold eSpend; rw [if_neg hn, if_neg (by rw [hrv]; simp), if_neg hq]
        rw [e]
        refine (rspend_do c0 c1 c2 hr k _ _ hk u0 s0 r0 (by omega) (by omega) hb.2.1 (by omega) fu fs n1 n2 n3).mono ?_
        rintro e w' ⟨rfl, m, rfl⟩
        have hFu := hF gu (by rw [r1]; simp)
        have hFs := hF gs (by rw [r2]; simp)
        exact ⟨rfl, ⟨ρ, _, _, _, _, _, _, _, _, (h.put2 bu bs hx _ _).drewN m, fun j hj => .inl (hF j hj)⟩, ((((Fr.refl F w).setCell (p := ⟨gu, ou + r, none⟩) (.inl hFu) _).setCell (p := ⟨gs, os + r, none⟩) (.inl hFs) _).drewN m)⟩
theorem rreturn_ok {U : Int} {t : Nat} {w : World} {F : Nat → Prop} {g : Nat} {S : ES} (h : RefIs w F g S) (hU : U ≤ 1000000000) (hI : Inv U t S) (i k : Int) (hk2 : k ≤ 9223372036854775807) :
    Calls Try.prog 77 #[.pointer (some ⟨g, 0, none⟩), .int .i64 i, .int .i64 k] w (RPost w F g (.int .i64 (eReturn S i k).1) (eReturn S i k).2) := by
  have h0 := h
  obtain ⟨ρ, vU, vS, vR, vP, vr, vT, vM, mz, h, hF⟩ := h
  obtain ⟨c0, c1, c2, _⟩ := h.cells
  by_cases hn : isB S.acc.length i = false ∨ k < 1
  · have e : eReturn S i k = (1, S) := by unfold eReturn; rw [if_pos hn]
    rw [e]
    obtain ⟨A, cap, rfl⟩ := arr_form ucell_len h.un
    exact (rreturn_no c0 i k hn hk2).mono fun _ _ he => RPost.same h0 he
  · have hi : isB S.acc.length i = true := by cases e : isB S.acc.length i with | true => rfl | false => exact absurd (.inl e) hn
    have hk : 1 ≤ k := by omega
    have hb := hI.bound hi
    have hx := ES.ac_get hi
    obtain ⟨r, x, rfl, _⟩ := isB_get hi
    rw [Int.toNat_natCast] at hx
    have hr : r < S.acc.length := (List.getElem?_eq_some_iff.1 hx).1
    obtain ⟨gu, ou, cu, rfl, bu, u0, fu⟩ := arr_get ucell_len h.un hx rfl
    obtain ⟨gs, os, cs, rfl, bs, s0, fs⟩ := arr_get scell_len h.us hx rfl
    obtain ⟨gr, orr, cr, rfl, br, r0, _⟩ := arr_get rcell_len h.re hx rfl
    have r1 := h.ru gu bu
    have r2 := h.rs gs bs
    have n1 : g ≠ gu := fun e => by have := h.rg; rw [e, r1] at this; cases this
    have n2 : gs ≠ gu := fun e => by rw [e, r1] at r2; cases r2
    have n3 : g ≠ gs := fun e => by have := h.rg; rw [e, r2] at this; cases this
    by_cases hq : (S.ac r).s < k
    · have e : eReturn S r k = (19, S) := by unfold eReturn; rw [if_neg hn, if_pos hq]
      rw [e]
      exact (rreturn_quota c0 c1 c2 hr k _ _ hk u0 s0 hq).mono fun _ _ he => RPost.same h0 he
    · have e : eReturn S r k = (0, S.putA r ⟨(S.ac r).u + k, (S.ac r).s - k, (S.ac r).r⟩) := by unfold eReturn; rw [if_neg hn, if_neg hq]
      rw [e]
      refine (rreturn_do c0 c1 c2 hr k _ _ hk u0 s0 (by omega) (by omega) hb.1 (by omega) fu fs n1 n2 n3).mono ?_
      rintro e w' ⟨rfl, m, rfl⟩
      have hFu := hF gu (by rw [r1]; simp)
      have hFs := hF gs (by rw [r2]; simp)
      exact ⟨rfl, ⟨ρ, _, _, _, _, _, _, _, _, (h.put2 bu bs hx _ _).drewN m, fun j hj => .inl (hF j hj)⟩, ((((Fr.refl F w).setCell (p := ⟨gu, ou + r, none⟩) (.inl hFu) _).setCell (p := ⟨gs, os + r, none⟩) (.inl hFs) _).drewN m)⟩
end Go.Proofs.Ytdjaofkbgkifkaa

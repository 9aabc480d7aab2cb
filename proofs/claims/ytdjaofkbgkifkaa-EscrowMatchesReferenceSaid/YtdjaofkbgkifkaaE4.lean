/- Package escrow: Spend, Return, Revoke. -/
import Derived.Test.YtdjaofkbgkifkaaE3
set_option linter.unusedVariables false
set_option linter.unusedSimpArgs false
namespace Go.Proofs.Ytdjaofkbgkifkaa
open Go.RowKit

/-- Other accounts in the same place. -/
theorem EscAt.putAcc {w w' : World} {ρ : Nat → Role} {g : Nat} {S : ES} {vA : Value} {mb : Nat} {L : List WE} {lk : Nat} {lb : Int → Int → Nat} {vT vM : Int → Int → Value} {mz : Int → Int → List (Value × EM)}
    (h : EscAt w ρ g S vA mb L lk lb vT vM mz) {S' : ES} (hln : S'.ln = S.ln) (hlen : S'.acc.length = S.acc.length) (hacc : Row w' 3 vA (S'.acc.flatMap Acc.cells)) (hs : w.heap.size ≤ w'.heap.size)
    (hk : ∀ k, k < w.heap.size → ρ k ≠ .acc → w'.heap[k]? = w.heap[k]?) : EscAt w' ρ g S' vA mb L lk lb vT vM mz := by
  have hh : ∀ {k : Nat} {o : Obj}, w.heap[k]? = some o → ρ k ≠ .acc → w'.heap[k]? = some o := fun ho hn => by rw [hk _ (Array.getElem?_eq_some_iff.1 ho).1 hn]; exact ho
  constructor
  · exact hh h.obj (by rw [h.rg]; simp)
  · exact hacc
  · exact hh h.map (by rw [h.rm]; simp)
  · exact h.ok
  · rw [hlen]; exact h.val
  · rw [hlen, hln]; exact fun a b p => hh (h.line a b p) (by rw [h.rl a b p]; simp)
  · rw [hlen, hln]; exact fun a b p => (h.tr a b p).kept (fun k hb => hk k ((h.tr a b p).lt hb) (by rw [h.rt a b p k hb]; simp))
  · rw [hlen]; exact fun a b p => (h.ms a b p).kept (fun k hb => hk k ((h.ms a b p).lt hb) (by rw [h.rs a b p k hb]; simp))
  · rw [hlen, hln]; exact h.mq
  · rw [hlen, hln]; exact fun a b p q hq => (h.im a b p q hq).keep hs (fun k hb hi => hk k hb (by rw [hi]; simp))
  · exact h.rg
  · exact h.ra
  · exact h.rm
  · rw [hlen]; exact h.rl
  · rw [hlen]; exact h.rt
  · rw [hlen]; exact h.rs
  · rw [hlen]; exact h.ks
  · exact h.ev
theorem setCell_other {w : World} {p : Addr} {u : Value} {k : Nat} (h : k ≠ p.block) : (w.setCell p u).heap[k]? = w.heap[k]? := Below.heap_setCell _ _ _ _ h
theorem setCell_size (w : World) (p : Addr) (u : Value) : (w.setCell p u).heap.size = w.heap.size := by simp [World.setCell]
/-- The units and what is spent of an account. -/
theorem EscAt.put2 {w : World} {ρ : Nat → Role} {g : Nat} {S : ES} {mb : Nat} {L : List WE} {lk : Nat} {lb : Int → Int → Nat} {vT vM : Int → Int → Value} {mz : Int → Int → List (Value × EM)} {ga off n cap : Nat}
    (h : EscAt w ρ g S (.slice (some ⟨ga, off, none⟩) n cap) mb L lk lb vT vM mz) {r : Nat} {x : Acc} (hx : S.acc[r]? = some x) (u s : Int) (hb : rowBlk (.slice (some ⟨ga, off, none⟩) n cap) = some ga) :
    EscAt ((w.drew.setCell ⟨ga, off + r * 3, none⟩ (.int .i64 u)).setCell ⟨ga, off + r * 3 + 1, none⟩ (.int .i64 s)) ρ g (S.putA r ⟨u, s, x.r⟩) (.slice (some ⟨ga, off, none⟩) n cap) mb L lk lb vT vM mz := by
  have hk : r < S.acc.length := (List.getElem?_eq_some_iff.1 hx).1
  have h1 : Row w.drew 3 (.slice (some ⟨ga, off, none⟩) n cap) (S.acc.flatMap Acc.cells) := h.acc
  have h2 := h1.put (f := Acc.cells) Acc.cells_len (i := r) (j := 0) (x := x) (x' := ⟨u, x.s, x.r⟩) (u := .int .i64 u) hx (by decide) rfl
  have h3 := h2.put (f := Acc.cells) Acc.cells_len (i := r) (j := 1) (x := ⟨u, x.s, x.r⟩) (x' := ⟨u, s, x.r⟩) (u := .int .i64 s) (by simp [hk]) (by decide) rfl
  rw [List.set_set] at h3
  refine h.putAcc rfl (by simp) (by simpa [ES.putA] using h3) (by simp [setCell_size]) (fun k hlt hn => ?_)
  have hne : k ≠ ga := fun e => hn (by rw [e]; exact h.ra ga hb)
  rw [setCell_other (by exact hne), setCell_other (by exact hne)]
  rfl
theorem EscAt.put1 {w : World} {ρ : Nat → Role} {g : Nat} {S : ES} {mb : Nat} {L : List WE} {lk : Nat} {lb : Int → Int → Nat} {vT vM : Int → Int → Value} {mz : Int → Int → List (Value × EM)} {ga off n cap : Nat}
    (h : EscAt w ρ g S (.slice (some ⟨ga, off, none⟩) n cap) mb L lk lb vT vM mz) {r : Nat} {x x' : Acc} (hx : S.acc[r]? = some x) (j : Nat) (hj : j < 3) (u : Value) (hxx : Acc.cells x' = (Acc.cells x).set j u) (hb : rowBlk (.slice (some ⟨ga, off, none⟩) n cap) = some ga) :
    EscAt (w.setCell ⟨ga, off + r * 3 + j, none⟩ u) ρ g (S.putA r x') (.slice (some ⟨ga, off, none⟩) n cap) mb L lk lb vT vM mz := by
  have h2 := h.acc.put (f := Acc.cells) Acc.cells_len (i := r) (j := j) (x := x) (x' := x') (u := u) hx hj hxx
  refine h.putAcc rfl (by simp) (by simpa [ES.putA] using h2) (by simp [setCell_size]) (fun k hlt hn => ?_)
  have hne : k ≠ ga := fun e => hn (by rw [e]; exact h.ra ga hb)
  rw [setCell_other (by exact hne)]
theorem EscAt.fr_acc {w : World} {ρ : Nat → Role} {g : Nat} {S : ES} {mb : Nat} {L : List WE} {lk : Nat} {lb : Int → Int → Nat} {vT vM : Int → Int → Value} {mz : Int → Int → List (Value × EM)} {ga off n cap : Nat} {F : Nat → Prop}
    (h : EscAt w ρ g S (.slice (some ⟨ga, off, none⟩) n cap) mb L lk lb vT vM mz) (hb : rowBlk (.slice (some ⟨ga, off, none⟩) n cap) = some ga) (hF : ∀ k, ρ k ≠ .other → F k) : F ga := hF ga (by rw [h.ra ga hb]; simp)

theorem spend_arg (p : Value) (i k : Int) (hk : k < 1) (w : World) : Calls Try.prog 21 #[p, .int .i64 i, .int .i64 k] w fun e w' => e = .returned (.int .i64 1) ∧ w' = w := by
  go_enter Try.func21, Try.ntmps21
  go_wp2_with fail
  go_ret
  exact ⟨rfl, rfl⟩
theorem return_arg (p : Value) (i k : Int) (hk : k < 1) (w : World) : Calls Try.prog 25 #[p, .int .i64 i, .int .i64 k] w fun e w' => e = .returned (.int .i64 1) ∧ w' = w := by
  go_enter Try.func25, Try.ntmps25
  go_wp2_with fail
  go_ret
  exact ⟨rfl, rfl⟩
theorem spend_via (p : Value) (i k : Int) (hk : 1 ≤ k) (hk2 : k ≤ 9223372036854775807) (w : World) (e0 : Ending) (Q : World → Prop) (H : Hid (Calls Try.prog 61 #[p, .int .i64 i, .int .i64 (-k), .func (.func 62) #[] #[]] w fun e w' => e = e0 ∧ Q w')) (x : Int) (he : e0 = .returned (.int .i64 x)) :
    Calls Try.prog 21 #[p, .int .i64 i, .int .i64 k] w fun e w' => e = .returned (.int .i64 x) ∧ Q w' := by
  subst he
  have hw : wrap64 (-k) = -k := w64 (by omega) (by omega)
  have hk' : ¬ k < 1 := by omega
  clear hk hk2
  go_enter Try.func21, Try.ntmps21
  go_wp2_with fail
  refine H.out.mono ?_
  rintro e w' ⟨rfl, hq⟩
  go_wp2_with fail
  go_ret
  exact ⟨rfl, hq⟩
theorem return_via (p : Value) (i k : Int) (hk : 1 ≤ k) (w : World) (e0 : Ending) (Q : World → Prop) (H : Hid (Calls Try.prog 61 #[p, .int .i64 i, .int .i64 k, .func (.func 70) #[] #[]] w fun e w' => e = e0 ∧ Q w')) (x : Int) (he : e0 = .returned (.int .i64 x)) :
    Calls Try.prog 25 #[p, .int .i64 i, .int .i64 k] w fun e w' => e = .returned (.int .i64 x) ∧ Q w' := by
  subst he
  have hk' : ¬ k < 1 := by omega
  clear hk
  go_enter Try.func25, Try.ntmps25
  go_wp2_with fail
  refine H.out.mono ?_
  rintro e w' ⟨rfl, hq⟩
  go_wp2_with fail
  go_ret
  exact ⟨rfl, hq⟩
theorem spend_nil (i k : Int) (hk2 : k ≤ 9223372036854775807) (w : World) : Calls Try.prog 21 #[.pointer none, .int .i64 i, .int .i64 k] w fun e w' => e = .returned (.int .i64 1) ∧ w' = w := by
  by_cases hk : k < 1
  · exact spend_arg _ i k hk w
  · exact spend_via _ i k (by omega) hk2 w _ _ (Lib.hid (change_nil i (-k) _ w)) 1 rfl

/-- The outcome of an operation on an escrow. -/
def EPost (w : World) (F : Nat → Prop) (g : Nat) (v : Value) (S' : ES) (e : Ending) (w' : World) : Prop := e = .returned v ∧ EscIs w' (Ext F w w') g S' ∧ Fr F w w'
theorem EPost.same {w : World} {F : Nat → Prop} {g : Nat} {S : ES} (h : EscIs w F g S) {v : Value} {e : Ending} {w' : World} (he : e = .returned v ∧ w' = w) : EPost w F g v S e w' := by
  obtain ⟨rfl, rfl⟩ := he
  exact ⟨rfl, h.mono (fun k hk => .inl hk), Fr.refl _ _⟩

theorem spend_ok {U : Int} {t : Nat} {w : World} {F : Nat → Prop} {g : Nat} {S : ES} (h : EscIs w F g S) (hU : U ≤ 1000000000) (hI : Inv U t S) (i k : Int) (hk2 : k ≤ 9223372036854775807) :
    Calls Try.prog 21 #[.pointer (some ⟨g, 0, none⟩), .int .i64 i, .int .i64 k] w (EPost w F g (.int .i64 (eSpend S i k).1) (eSpend S i k).2) := by
  by_cases hk : k < 1
  · have e : eSpend S i k = (1, S) := by unfold eSpend; rw [if_pos (.inr hk)]
    rw [e]
    exact (spend_arg _ i k hk w).mono fun _ _ he => EPost.same h he
  have hk1 : 1 ≤ k := by omega
  have h0 := h
  obtain ⟨ρ, vA, mb, L, lk, lb, vT, vM, mz, h, hF⟩ := h
  obtain ⟨c0, _⟩ := h.cells
  cases hi : isB S.acc.length i with
  | false =>
    have e : eSpend S i k = (1, S) := by unfold eSpend; rw [if_pos (.inl hi)]
    rw [e]
    obtain ⟨A, cap, rfl⟩ := acc_form h.acc
    exact (spend_via _ i k hk1 hk2 w _ _ (Lib.hid (change_no c0 i (-k) hi _)) 1 rfl).mono fun _ _ he => EPost.same h0 he
  | true =>
    have hb := hI.bound hi
    have hac := ES.ac_get hi
    obtain ⟨r, x, rfl, hx⟩ := isB_get hi
    have hxe : S.ac (r : Int) = x := by simpa [hx] using hac.symm
    obtain ⟨ga, off, cap, rfl, hbk, u0, u1, u2, ufr⟩ := acc_get h.acc (by have := hI.sh.n8; omega) hx
    have hr : r < S.acc.length := (List.getElem?_eq_some_iff.1 hx).1
    rw [hxe] at hb
    have hn : ¬ (isB S.acc.length (r : Int) = false ∨ k < 1) := by rw [hi]; simp; omega
    have hf := spend1 ga (off + r * 3) x.r w u2
    cases hrv : x.r with
    | true =>
      have e : eSpend S r k = (22, S) := by unfold eSpend; rw [if_neg hn, hxe, if_pos hrv]
      rw [e]
      rw [hrv] at hf
      exact (spend_via _ r k hk1 hk2 w _ _ (Lib.hid (change_err c0 r hr (-k) 22 rfl hf)) 22 rfl).mono fun _ _ he => EPost.same h0 he
    | false =>
      rw [hrv] at hf
      have hf' : Calls Try.prog 62 #[.pointer (some ⟨ga, off + r * 3, none⟩)] w fun e w' => e = .returned (.int .i64 0) ∧ w' = w := hf
      have hw1 : wrap64 (x.u + -k) = x.u + -k := w64 (by omega) (by omega)
      by_cases hq : x.u < k
      · have e : eSpend S r k = (19, S) := by unfold eSpend; rw [if_neg hn, hxe, if_neg (by simp [hrv]), if_pos hq]
        rw [e]
        exact (spend_via _ r k hk1 hk2 w _ _ (Lib.hid (change_quota62 c0 r hr (-k) x.u x.s hf' u0 u1 (.inl (by rw [hw1]; omega)))) 19 rfl).mono fun _ _ he => EPost.same h0 he
      · have e : eSpend S r k = (0, S.putA r ⟨x.u - k, x.s + k, x.r⟩) := by unfold eSpend; rw [if_neg hn, hxe, if_neg (by simp [hrv]), if_neg hq]
        rw [e]
        have hw2 : wrap64 (x.s - -k) = x.s - -k := w64 (by omega) (by omega)
        refine (spend_via _ r k hk1 hk2 w _ (fun w' => w' = ((w.drew.setCell ⟨ga, off + r * 3, none⟩ (.int .i64 (x.u + -k))).setCell ⟨ga, off + r * 3 + 1, none⟩ (.int .i64 (x.s - -k)))) (Lib.hid (change_do62 c0 r hr (-k) x.u x.s hf' u0 u1 (by omega) (by omega) hw1 hw2 ufr)) 0 rfl).mono ?_
        rintro e w' ⟨rfl, rfl⟩
        have hFa := h.fr_acc hbk hF
        have e1 : x.s - -k = x.s + k := by omega
        have e2 : x.u + -k = x.u - k := by omega
        rw [e1, e2]
        refine ⟨rfl, ⟨ρ, _, mb, L, lk, lb, vT, vM, mz, h.put2 hx _ _ hbk, fun j hj => .inl (hF j hj)⟩, ?_⟩
        exact (((Fr.refl F w).drew).setCell (.inl hFa) _).setCell (.inl hFa) _

theorem return_ok {U : Int} {t : Nat} {w : World} {F : Nat → Prop} {g : Nat} {S : ES} (h : EscIs w F g S) (hU : U ≤ 1000000000) (hI : Inv U t S) (i k : Int) (hk2 : k ≤ 9223372036854775807) :
    Calls Try.prog 25 #[.pointer (some ⟨g, 0, none⟩), .int .i64 i, .int .i64 k] w (EPost w F g (.int .i64 (eReturn S i k).1) (eReturn S i k).2) := by
  by_cases hk : k < 1
  · have e : eReturn S i k = (1, S) := by unfold eReturn; rw [if_pos (.inr hk)]
    rw [e]
    exact (return_arg _ i k hk w).mono fun _ _ he => EPost.same h he
  have hk1 : 1 ≤ k := by omega
  have h0 := h
  obtain ⟨ρ, vA, mb, L, lk, lb, vT, vM, mz, h, hF⟩ := h
  obtain ⟨c0, _⟩ := h.cells
  cases hi : isB S.acc.length i with
  | false =>
    have e : eReturn S i k = (1, S) := by unfold eReturn; rw [if_pos (.inl hi)]
    rw [e]
    obtain ⟨A, cap, rfl⟩ := acc_form h.acc
    exact (return_via _ i k hk1 w _ _ (Lib.hid (change_no c0 i k hi _)) 1 rfl).mono fun _ _ he => EPost.same h0 he
  | true =>
    have hb := hI.bound hi
    have hac := ES.ac_get hi
    obtain ⟨r, x, rfl, hx⟩ := isB_get hi
    have hxe : S.ac (r : Int) = x := by simpa [hx] using hac.symm
    obtain ⟨ga, off, cap, rfl, hbk, u0, u1, u2, ufr⟩ := acc_get h.acc (by have := hI.sh.n8; omega) hx
    have hr : r < S.acc.length := (List.getElem?_eq_some_iff.1 hx).1
    rw [hxe] at hb
    have hn : ¬ (isB S.acc.length (r : Int) = false ∨ k < 1) := by rw [hi]; simp; omega
    have hf := return1 ga (off + r * 3) w
    have hw2 : wrap64 (x.s - k) = x.s - k := w64 (by omega) (by omega)
    by_cases hq : x.s < k
    · have e : eReturn S r k = (19, S) := by unfold eReturn; rw [if_neg hn, hxe, if_pos hq]
      rw [e]
      exact (return_via _ r k hk1 w _ _ (Lib.hid (change_quota70 c0 r hr k x.u x.s hf u0 u1 (.inr (by rw [hw2]; omega)))) 19 rfl).mono fun _ _ he => EPost.same h0 he
    · have e : eReturn S r k = (0, S.putA r ⟨x.u + k, x.s - k, x.r⟩) := by unfold eReturn; rw [if_neg hn, hxe, if_neg hq]
      rw [e]
      have hw1 : wrap64 (x.u + k) = x.u + k := w64 (by omega) (by omega)
      refine (return_via _ r k hk1 w _ (fun w' => w' = ((w.drew.setCell ⟨ga, off + r * 3, none⟩ (.int .i64 (x.u + k))).setCell ⟨ga, off + r * 3 + 1, none⟩ (.int .i64 (x.s - k)))) (Lib.hid (change_do70 c0 r hr k x.u x.s hf u0 u1 (by omega) (by omega) hw1 hw2 ufr)) 0 rfl).mono ?_
      rintro e w' ⟨rfl, rfl⟩
      have hFa := h.fr_acc hbk hF
      refine ⟨rfl, ⟨ρ, _, mb, L, lk, lb, vT, vM, mz, h.put2 hx _ _ hbk, fun j hj => .inl (hF j hj)⟩, ?_⟩
      exact (((Fr.refl F w).drew).setCell (.inl hFa) _).setCell (.inl hFa) _
theorem revoke_ok {U : Int} {t : Nat} {w : World} {F : Nat → Prop} {g : Nat} {S : ES} (h : EscIs w F g S) (hI : Inv U t S) (i : Int) :
    Calls Try.prog 43 #[.pointer (some ⟨g, 0, none⟩), .int .i64 i] w (EPost w F g (.int .i64 (eRevoke S i).1) (eRevoke S i).2) := by
  have h0 := h
  obtain ⟨ρ, vA, mb, L, lk, lb, vT, vM, mz, h, hF⟩ := h
  obtain ⟨c0, _⟩ := h.cells
  cases hi : isB S.acc.length i with
  | false =>
    have e : eRevoke S i = (1, S) := by unfold eRevoke; rw [if_pos hi]
    rw [e]
    obtain ⟨A, cap, rfl⟩ := acc_form h.acc
    have H := Lib.hid (at_no c0 i hi)
    have H0 := Lib.hid h0
    clear h hi hI h0 e
    go_enter Try.func43, Try.ntmps43
    go_wp2_with fail
    refine H.out.mono ?_
    rintro e w' ⟨rfl, rfl⟩
    go_wp2_with fail
    go_ret
    exact EPost.same H0.out ⟨rfl, rfl⟩
  | true =>
    have hac := ES.ac_get hi
    obtain ⟨r, x, rfl, hx⟩ := isB_get hi
    have hxe : S.ac (r : Int) = x := by simpa [hx] using hac.symm
    obtain ⟨ga, off, cap, rfl, hbk, u0, u1, u2, ufr⟩ := acc_get h.acc (by have := hI.sh.n8; omega) hx
    have hr : r < S.acc.length := (List.getElem?_eq_some_iff.1 hx).1
    have e : eRevoke S r = (0, S.putA r ⟨x.u, x.s, true⟩) := by unfold eRevoke; rw [if_neg (by rw [hi]; simp), hxe]
    rw [e]
    have H := Lib.hid (at_yes c0 r hr)
    have Hh := Lib.hid h
    have HF := Lib.hid hF
    clear h hi hI h0 e hF
    go_enter Try.func43, Try.ntmps43
    go_wp2_with fail
    refine H.out.mono ?_
    rintro e w' ⟨rfl, rfl⟩
    go_wp2_with fail
    go_ret
    have hFa := Hh.out.fr_acc hbk HF.out
    refine ⟨rfl, ⟨ρ, _, mb, L, lk, lb, vT, vM, mz, Hh.out.put1 hx 2 (by decide) _ rfl hbk, fun j hj => .inl (HF.out j hj)⟩, ?_⟩
    exact ((Fr.refl F _)).setCell (.inl hFa) _
end Go.Proofs.Ytdjaofkbgkifkaa

/- The reference of chapter 36: what it is in memory; is, Have, Revoke, Spend, Return. -/
import Derived.Test.YtdjaofkbgkifkaaE31
set_option linter.unusedVariables false
set_option linter.unusedSimpArgs false
namespace Go.Proofs.Ytdjaofkbgkifkaa
open Go.RowKit

inductive RR where
  | main | un | us | re | out | row (a : Nat) | tr (a b : Nat) | ms (a b : Nat) | imm | other
def ucell (x : Acc) : List Value := [.int .i64 x.u]
def scell (x : Acc) : List Value := [.int .i64 x.s]
def rcell (x : Acc) : List Value := [.bool x.r]
theorem ucell_len (x : Acc) : (ucell x).length = 1 := rfl
theorem scell_len (x : Acc) : (scell x).length = 1 := rfl
theorem rcell_len (x : Acc) : (rcell x).length = 1 := rfl
def pcells (S : ES) (vT vM : Nat → Nat → Value) (a b : Nat) : List Value := [vT a b, .int .i64 ((S.ln a b).rcv : Int), .int .i64 ((S.ln a b).conf : Int), vM a b]
theorem pcells_len (S : ES) (vT vM : Nat → Nat → Value) (a b : Nat) : (pcells S vT vM a b).length = 4 := rfl
/-- A message: First, Units, Received, Revoked. -/
def qcells (p : Value × EM) : List Value := [.int .i64 ((p.2.f : Int) + 1), p.1, .int .i64 (p.2.c : Int), .bool p.2.r]
theorem qcells_len (p : Value × EM) : (qcells p).length = 4 := rfl
def RdR (ρ : Nat → RR) (w : World) (v : Value) (xs : List Int) : Prop :=
  ∃ A n cap, v = .slice A n cap ∧ n = xs.length ∧ (0 < n → ∃ g off, A = some ⟨g, off, none⟩ ∧ ρ g = .imm ∧ g < w.heap.size ∧
    ∀ (j : Nat) (x : Int), xs[j]? = some x → w.cell? ⟨g, off + j, none⟩ = some (.int .i64 x))
theorem RdR.keep {ρ ρ' : Nat → RR} {w w' : World} {v : Value} {xs : List Int} (h : RdR ρ w v xs) (hs : w.heap.size ≤ w'.heap.size) (hk : ∀ k, k < w.heap.size → ρ k = .imm → w'.heap[k]? = w.heap[k]?) (hρ : ∀ k, k < w.heap.size → ρ k = .imm → ρ' k = .imm) : RdR ρ' w' v xs := by
  obtain ⟨A, n, cap, rfl, hn, h0⟩ := h
  refine ⟨A, n, cap, rfl, hn, fun hp => ?_⟩
  obtain ⟨g, off, rfl, hi, hl, hc⟩ := h0 hp
  exact ⟨g, off, rfl, hρ g hl hi, Nat.lt_of_lt_of_le hl hs, fun j x hj => (World.cell?_of_block (hk g hl hi)).trans (hc j x hj)⟩
structure RefAt (w : World) (ρ : Nat → RR) (g : Nat) (S : ES) (vU vS vR vP : Value) (vr : Nat → Value) (vT vM : Nat → Nat → Value) (mz : Nat → Nat → List (Value × EM)) : Prop where
  obj : w.heap[g]? = some (.cells #[vU, vS, vR, vP] 145)
  un : Row w 1 vU (S.acc.flatMap ucell)
  us : Row w 1 vS (S.acc.flatMap scell)
  re : Row w 1 vR (S.acc.flatMap rcell)
  out : Row w 1 vP ((List.range S.acc.length).flatMap fun a => [vr a])
  row : ∀ a, a < S.acc.length → Row w 4 (vr a) ((List.range S.acc.length).flatMap (pcells S vT vM a))
  tr : ∀ a b, a < S.acc.length → b < S.acc.length → Row w 1 (vT a b) ((S.ln a b).all.flatMap icell)
  ms : ∀ a b, a < S.acc.length → b < S.acc.length → Row w 4 (vM a b) ((mz a b).flatMap qcells)
  mq : ∀ a b, a < S.acc.length → b < S.acc.length → (mz a b).map (·.2) = (S.ln a b).ms
  im : ∀ a b, a < S.acc.length → b < S.acc.length → ∀ p ∈ mz a b, RdR ρ w p.1 (p.2.tr (S.ln a b).all)
  dg : ∀ a : Nat, S.ln a a = EL.nil
  rg : ρ g = .main
  ru : ∀ k, rowBlk vU = some k → ρ k = .un
  rs : ∀ k, rowBlk vS = some k → ρ k = .us
  rr : ∀ k, rowBlk vR = some k → ρ k = .re
  ro : ∀ k, rowBlk vP = some k → ρ k = .out
  rw_ : ∀ a, a < S.acc.length → ∀ k, rowBlk (vr a) = some k → ρ k = .row a
  rt : ∀ a b, a < S.acc.length → b < S.acc.length → ∀ k, rowBlk (vT a b) = some k → ρ k = .tr a b
  rm : ∀ a b, a < S.acc.length → b < S.acc.length → ∀ k, rowBlk (vM a b) = some k → ρ k = .ms a b
def RefIs (w : World) (F : Nat → Prop) (g : Nat) (S : ES) : Prop := ∃ ρ vU vS vR vP vr vT vM mz, RefAt w ρ g S vU vS vR vP vr vT vM mz ∧ ∀ k, ρ k ≠ .other → F k
def RPost (w : World) (F : Nat → Prop) (g : Nat) (v : Value) (S' : ES) (e : Ending) (w' : World) : Prop := e = .returned v ∧ RefIs w' (Ext F w w') g S' ∧ Fr F w w'
/-- Blocks with none of the three lists' roles stay; the lists are new. -/
theorem RefAt.putArr {w w' : World} {ρ : Nat → RR} {g : Nat} {S : ES} {vU vS vR vP : Value} {vr : Nat → Value} {vT vM : Nat → Nat → Value} {mz : Nat → Nat → List (Value × EM)}
    (h : RefAt w ρ g S vU vS vR vP vr vT vM mz) {S' : ES} (hln : S'.ln = S.ln) (hlen : S'.acc.length = S.acc.length) (hu : Row w' 1 vU (S'.acc.flatMap ucell)) (hs : Row w' 1 vS (S'.acc.flatMap scell)) (hr : Row w' 1 vR (S'.acc.flatMap rcell))
    (hsz : w.heap.size ≤ w'.heap.size) (hk : ∀ k, k < w.heap.size → ρ k ≠ .un → ρ k ≠ .us → ρ k ≠ .re → ρ k ≠ .other → w'.heap[k]? = w.heap[k]?) : RefAt w' ρ g S' vU vS vR vP vr vT vM mz := by
  have hp : ∀ a, pcells S' vT vM a = pcells S vT vM a := fun a => by unfold pcells; rw [hln]
  constructor
  · rw [hk g (Array.getElem?_eq_some_iff.1 h.obj).1 (by rw [h.rg]; simp) (by rw [h.rg]; simp) (by rw [h.rg]; simp) (by rw [h.rg]; simp)]; exact h.obj
  · exact hu
  · exact hs
  · exact hr
  · rw [hlen]; exact h.out.kept (fun k hb => hk k (h.out.lt hb) (by rw [h.ro k hb]; simp) (by rw [h.ro k hb]; simp) (by rw [h.ro k hb]; simp) (by rw [h.ro k hb]; simp))
  · intro a ha
    rw [hp]
    rw [hlen] at ha ⊢
    exact (h.row a ha).kept (fun k hb => hk k ((h.row a ha).lt hb) (by rw [h.rw_ a ha k hb]; simp) (by rw [h.rw_ a ha k hb]; simp) (by rw [h.rw_ a ha k hb]; simp) (by rw [h.rw_ a ha k hb]; simp))
  · rw [hlen, hln]
    exact fun a b ha hb => (h.tr a b ha hb).kept (fun k hb' => hk k ((h.tr a b ha hb).lt hb') (by rw [h.rt a b ha hb k hb']; simp) (by rw [h.rt a b ha hb k hb']; simp) (by rw [h.rt a b ha hb k hb']; simp) (by rw [h.rt a b ha hb k hb']; simp))
  · rw [hlen]
    exact fun a b ha hb => (h.ms a b ha hb).kept (fun k hb' => hk k ((h.ms a b ha hb).lt hb') (by rw [h.rm a b ha hb k hb']; simp) (by rw [h.rm a b ha hb k hb']; simp) (by rw [h.rm a b ha hb k hb']; simp) (by rw [h.rm a b ha hb k hb']; simp))
  · rw [hlen, hln]; exact h.mq
  · rw [hlen, hln]
    exact fun a b ha hb p hp => (h.im a b ha hb p hp).keep hsz (fun k hk' hi => hk k hk' (by rw [hi]; simp) (by rw [hi]; simp) (by rw [hi]; simp) (by rw [hi]; simp)) (fun _ _ h => h)
  · rw [hln]; exact h.dg
  · exact h.rg
  · exact h.ru
  · exact h.rs
  · exact h.rr
  · exact h.ro
  · rw [hlen]; exact h.rw_
  · rw [hlen]; exact h.rt
  · rw [hlen]; exact h.rm
theorem RefAt.fr {w w' : World} {ρ : Nat → RR} {H : Nat → Prop} {g : Nat} {S : ES} {vU vS vR vP : Value} {vr : Nat → Value} {vT vM : Nat → Nat → Value} {mz : Nat → Nat → List (Value × EM)}
    (h : RefAt w ρ g S vU vS vR vP vr vT vM mz) (hf : Fr H w w') (hd : ∀ k, ρ k ≠ .other → ¬ H k) : RefAt w' ρ g S vU vS vR vP vr vT vM mz :=
  h.putArr rfl rfl (h.un.fr hf (fun k hk => hd k (by rw [h.ru k hk]; simp))) (h.us.fr hf (fun k hk => hd k (by rw [h.rs k hk]; simp))) (h.re.fr hf (fun k hk => hd k (by rw [h.rr k hk]; simp))) hf.size
    (fun k hk _ _ _ ho => hf.block k hk (hd k ho))
theorem RefIs.fr {w w' : World} {F H : Nat → Prop} {g : Nat} {S : ES} (h : RefIs w F g S) (hf : Fr H w w') (hd : ∀ k, F k → ¬ H k) : RefIs w' F g S := by
  obtain ⟨ρ, vU, vS, vR, vP, vr, vT, vM, mz, h, hF⟩ := h
  exact ⟨ρ, vU, vS, vR, vP, vr, vT, vM, mz, h.fr hf (fun k hk => hd k (hF k hk)), hF⟩
theorem RefIs.mono {w : World} {F G : Nat → Prop} {g : Nat} {S : ES} (h : RefIs w F g S) (hF : ∀ k, F k → G k) : RefIs w G g S := by
  obtain ⟨ρ, vU, vS, vR, vP, vr, vT, vM, mz, h, hF'⟩ := h
  exact ⟨ρ, vU, vS, vR, vP, vr, vT, vM, mz, h, fun k hk => hF k (hF' k hk)⟩
theorem RPost.same {w : World} {F : Nat → Prop} {g : Nat} {S : ES} (h : RefIs w F g S) {v : Value} {e : Ending} {w' : World} (he : e = .returned v ∧ w' = w) : RPost w F g v S e w' := by
  obtain ⟨rfl, rfl⟩ := he
  exact ⟨rfl, h.mono (fun k hk => .inl hk), Fr.refl _ _⟩
/-- One list of an account's parts. -/
theorem arr_form {α : Type} {f : α → List Value} (hf : ∀ x, (f x).length = 1) {w : World} {v : Value} {l : List α} (h : Row w 1 v (l.flatMap f)) : ∃ A cap, v = .slice A l.length cap := by
  obtain ⟨A, n, cap, rfl, hn⟩ := h.form
  rw [flat_length f 1 hf] at hn
  obtain rfl : n = l.length := by omega
  exact ⟨A, cap, rfl⟩
theorem arr_get {α : Type} {f : α → List Value} (hf : ∀ x, (f x).length = 1) {w : World} {v : Value} {l : List α} (h : Row w 1 v (l.flatMap f)) {r : Nat} {x : α} (hx : l[r]? = some x) {u : Value} (hu : f x = [u]) :
    ∃ g off cap, v = .slice (some ⟨g, off, none⟩) l.length cap ∧ rowBlk v = some g ∧ w.cell? ⟨g, off + r, none⟩ = some u ∧ (∀ o, w.frozen? ⟨g, o, none⟩ = false) := by
  have hk : r < l.length := (List.getElem?_eq_some_iff.1 hx).1
  obtain ⟨A, cap, rfl⟩ := arr_form hf h
  obtain ⟨g, off, rfl, hb, hc⟩ := h.at_ (i := r) hk
  refine ⟨g, off, cap, rfl, hb, ?_, fun o => h.free hb o⟩
  have h1 := hc 0 (by decide)
  have h2 := flat_get f 1 hf l r x 0 u hx (by rw [hu]; rfl)
  simp only [Nat.mul_one, Nat.add_zero] at h1 h2
  rw [h1, h2]
theorem RefAt.cells {w : World} {ρ : Nat → RR} {g : Nat} {S : ES} {vU vS vR vP : Value} {vr : Nat → Value} {vT vM : Nat → Nat → Value} {mz : Nat → Nat → List (Value × EM)}
    (h : RefAt w ρ g S vU vS vR vP vr vT vM mz) : w.cell? ⟨g, 0, none⟩ = some vU ∧ w.cell? ⟨g, 1, none⟩ = some vS ∧ w.cell? ⟨g, 2, none⟩ = some vR ∧ w.cell? ⟨g, 3, none⟩ = some vP ∧ (∀ o, w.frozen? ⟨g, o, none⟩ = false) := four_cells h.obj
theorem is_at {w : World} {g : Nat} {A : Option Addr} {n cap : Nat} (c0 : w.cell? ⟨g, 0, none⟩ = some (.slice A n cap)) (i : Int) : Calls Try.prog 82 #[.pointer (some ⟨g, 0, none⟩), .int .i64 i] w fun e w' => e = .returned (.bool (isB n i)) ∧ w' = w := by
  by_cases h0 : 0 ≤ i
  · by_cases h1 : i < n
    · have e : isB n i = true := by simp only [isB, decide_eq_true_eq]; exact ⟨h0, h1⟩
      rw [e]
      clear e
      go_enter Try.func82, Try.ntmps82
      go_wp2_with fail
      go_ret
      refine ⟨?_, rfl⟩
      simp [h1]
    · have e : isB n i = false := by simp only [isB, decide_eq_false_iff_not]; omega
      rw [e]
      clear e
      go_enter Try.func82, Try.ntmps82
      go_wp2_with fail
      go_ret
      refine ⟨?_, rfl⟩
      simp; try omega
  · have e : isB n i = false := by simp only [isB, decide_eq_false_iff_not]; omega
    rw [e]
    have h1 : ¬ (0 : Int) ≤ i := h0
    clear e
    go_enter Try.func82, Try.ntmps82
    go_wp2_with fail
    go_ret
    refine ⟨?_, rfl⟩
    simp; try omega
theorem rhave_ok {w : World} {F : Nat → Prop} {g : Nat} {S : ES} (h : RefIs w F g S) (i : Int) : Calls Try.prog 40 #[.pointer (some ⟨g, 0, none⟩), .int .i64 i] w fun e w' => e = .returned (.int .i64 (eHave S i)) ∧ w' = w := by
  obtain ⟨ρ, vU, vS, vR, vP, vr, vT, vM, mz, h, _⟩ := h
  obtain ⟨c0, _⟩ := h.cells
  obtain ⟨A, cap, rfl⟩ := arr_form ucell_len h.un
  have H := Lib.hid (is_at c0 i)
  cases hi : isB S.acc.length i with
  | false =>
    rw [hi] at H
    rw [eHave_no hi]
    clear h hi
    go_enter Try.func40, Try.ntmps40
    go_wp2_with fail
    refine H.out.mono ?_
    rintro e w' ⟨rfl, rfl⟩
    go_wp2_with fail
    go_ret
    exact ⟨rfl, rfl⟩
  | true =>
    rw [hi] at H
    rw [eHave_ac hi]
    have hx := ES.ac_get hi
    obtain ⟨r, x, rfl, _⟩ := isB_get hi
    rw [Int.toNat_natCast] at hx
    obtain ⟨ga, off, cap', he, _, u0, _⟩ := arr_get ucell_len h.un hx rfl
    cases he
    have hr : r < S.acc.length := (List.getElem?_eq_some_iff.1 hx).1
    have h1 : (r : Int) < S.acc.length := by omega
    have h0 : ¬ (r : Int) < 0 := by omega
    generalize S.ac (r : Int) = y at *
    clear h hi hx hr
    go_enter Try.func40, Try.ntmps40
    go_wp2_with fail
    refine H.out.mono ?_
    rintro e w' ⟨rfl, rfl⟩
    go_wp2_with fail
    go_ret
    exact ⟨rfl, rfl⟩
end Go.Proofs.Ytdjaofkbgkifkaa

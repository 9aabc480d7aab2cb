/- The reference of chapter 36: Send whole; stores into a pair and into the lists; a message read. -/
import Derived.Test.YtdjaofkbgkifkaaE41
set_option linter.unusedVariables false
set_option linter.unusedSimpArgs false
namespace Go.Proofs.Ytdjaofkbgkifkaa
open Go.RowKit

theorem rsend_ok {U : Int} {t : Nat} {w : World} {F : Nat → Prop} {g : Nat} {S : ES} (h : RefIs w F g S) (hI : Inv U t S) (ht : t ≤ 1000000) (a b : Int) :
    Calls Try.prog 79 #[.pointer (some ⟨g, 0, none⟩), .int .i64 a, .int .i64 b] w (RPost w F g (.int .i64 (eSend S a b).1) (eSend S a b).2) := by
  have h0 := h
  obtain ⟨ρ, vU, vS, vR, vP, vr, vT, vM, mz, h, hF⟩ := h
  by_cases hp : pairB S.acc.length a b = false
  · have e : eSend S a b = (1, S) := by unfold eSend; rw [if_pos hp]
    rw [e]
    obtain ⟨c0, _⟩ := h.cells
    obtain ⟨A, cap, rfl⟩ := arr_form ucell_len h.un
    exact (rsend_arg c0 a b hp).mono fun _ _ he => RPost.same h0 he
  · have hp' : pairB S.acc.length a b = true := by cases e : pairB S.acc.length a b <;> simp_all
    obtain ⟨x, y, rfl, rfl, hx, hy, hne⟩ := pairB_nat hp'
    by_cases hq : 100 ≤ (S.ln x y).ms.length
    · have e : eSend S x y = (28, S) := by unfold eSend; rw [if_neg hp, if_pos hq]
      rw [e]
      refine (rsend_full h hx hy hne hq).mono fun _ _ he => ⟨he.1, ?_, he.2.mono (fun _ _ h => h.elim)⟩
      exact (h0.fr he.2 (fun _ _ h => h)).mono (fun k hk => .inl hk)
    · have e : eSend S x y = (0, S.putL x y { S.ln x y with ms := (S.ln x y).ms ++ [eMsg S x y] }) := by unfold eSend; rw [if_neg hp, if_neg hq]
      rw [e]
      exact rsend_do h hF hI ht hx hy hne hq
theorem nupd_self {α : Type} (f : Nat → Nat → α) (a b : Nat) : nupd f a b (f a b) = f := by
  funext x y
  unfold nupd
  split
  · rename_i h; rw [h.1, h.2]
  · rfl
/-- A store into one of a pair's numbers. -/
theorem RefAt.setPair {w : World} {ρ : Nat → RR} {g : Nat} {S : ES} {vU vS vR vP : Value} {vr : Nat → Value} {vT vM : Nat → Nat → Value} {mz : Nat → Nat → List (Value × EM)}
    (h : RefAt w ρ g S vU vS vR vP vr vT vM mz) {a b : Nat} (ha : a < S.acc.length) (hb : b < S.acc.length) (hne : a ≠ b) {gr orr cr : Nat} (hvr : vr a = .slice (some ⟨gr, orr, none⟩) S.acc.length cr) (hbr : rowBlk (vr a) = some gr)
    {l : EL} (hl1 : l.all = (S.ln a b).all) (hl2 : l.ms = (S.ln a b).ms) {j : Nat} (hj : j < 4) {u : Value} (hset : [vT a b, .int .i64 (l.rcv : Int), .int .i64 (l.conf : Int), vM a b] = [vT a b, .int .i64 ((S.ln a b).rcv : Int), .int .i64 ((S.ln a b).conf : Int), vM a b].set j u) :
    RefAt (w.setCell ⟨gr, orr + b * 4 + j, none⟩ u) ρ g (S.putL a b l) vU vS vR vP vr vT vM mz := by
  have hR : ρ gr = .row a := h.rw_ a ha gr hbr
  have hn : ∀ k, ρ k ≠ .row a → k ≠ gr := fun k hk e => hk (by rw [e]; exact hR)
  have E := h.putLine (w' := w.setCell ⟨gr, orr + b * 4 + j, none⟩ u) (l := l) (t' := vT a b) (M' := vM a b) (z' := mz a b) ha hb hne ?_ ?_ ?_ ?_ ?_ (by rw [setCell_size]; exact Nat.le_refl _) (fun k _ h1 _ _ _ => setCell_other (hn k h1)) (h.rt a b ha hb) (h.rm a b ha hb)
  · rw [nupd_self, nupd_self, nupd_self] at E
    exact E
  · have := h.row a ha
    rw [hvr] at this ⊢
    exact this.putR (f := pcells S vT vM a) (f' := pcells (S.putL a b l) (nupd vT a b (vT a b)) (nupd vM a b (vM a b)) a) (fun _ => rfl) hb hj (fun y hy => pcells_other hy) (by rw [pcells_same, hset]; rfl)
  · rw [hl1]
    exact (h.tr a b ha hb).kept (fun k hk => setCell_other (hn k (by rw [h.rt a b ha hb k hk]; simp)))
  · exact (h.ms a b ha hb).kept (fun k hk => setCell_other (hn k (by rw [h.rm a b ha hb k hk]; simp)))
  · rw [hl2]; exact h.mq a b ha hb
  · rw [hl1]
    exact fun q hq => (h.im a b ha hb q hq).keep (by rw [setCell_size]; exact Nat.le_refl _) (fun k _ hi => setCell_other (hn k (by rw [hi]; simp))) (fun _ _ h => h)
/-- A store into the units. -/
theorem RefAt.setUn {w : World} {ρ : Nat → RR} {g : Nat} {S : ES} {gu ou nu cu : Nat} {vS vR vP : Value} {vr : Nat → Value} {vT vM : Nat → Nat → Value} {mz : Nat → Nat → List (Value × EM)}
    (h : RefAt w ρ g S (.slice (some ⟨gu, ou, none⟩) nu cu) vS vR vP vr vT vM mz) (hbu : rowBlk (.slice (some ⟨gu, ou, none⟩) nu cu) = some gu) {r : Nat} {x : Acc} (hx : S.acc[r]? = some x) (u : Int) :
    RefAt (w.setCell ⟨gu, ou + r, none⟩ (.int .i64 u)) ρ g (S.putA r ⟨u, x.s, x.r⟩) (.slice (some ⟨gu, ou, none⟩) nu cu) vS vR vP vr vT vM mz := by
  have r1 := h.ru gu hbu
  have n1 : ∀ k, ρ k ≠ .un → k ≠ gu := fun k hk e => hk (by rw [e]; exact r1)
  refine h.putArr rfl (by simp) ?_ ?_ ?_ (by rw [setCell_size]; exact Nat.le_refl _) (fun k _ h1 _ _ _ => setCell_other (n1 k h1))
  · exact flat_putA ucell_len (x' := ⟨u, x.s, x.r⟩) hx rfl h.un (u := .int .i64 u)
  · simp only [ES.putA, Int.toNat_natCast]
    rw [flat_same (f := scell) (x' := ⟨u, x.s, x.r⟩) hx rfl]
    exact h.us.kept (fun k hk => setCell_other (n1 k (by rw [h.rs k hk]; simp)))
  · simp only [ES.putA, Int.toNat_natCast]
    rw [flat_same (f := rcell) (x' := ⟨u, x.s, x.r⟩) hx rfl]
    exact h.re.kept (fun k hk => setCell_other (n1 k (by rw [h.rr k hk]; simp)))
/-- A store into the revocations. -/
theorem RefAt.setRe {w : World} {ρ : Nat → RR} {g : Nat} {S : ES} {gu ou nu cu : Nat} {vU vS vP : Value} {vr : Nat → Value} {vT vM : Nat → Nat → Value} {mz : Nat → Nat → List (Value × EM)}
    (h : RefAt w ρ g S vU vS (.slice (some ⟨gu, ou, none⟩) nu cu) vP vr vT vM mz) (hbu : rowBlk (.slice (some ⟨gu, ou, none⟩) nu cu) = some gu) {r : Nat} {x : Acc} (hx : S.acc[r]? = some x) (v : Bool) :
    RefAt (w.setCell ⟨gu, ou + r, none⟩ (.bool v)) ρ g (S.putA r ⟨x.u, x.s, v⟩) vU vS (.slice (some ⟨gu, ou, none⟩) nu cu) vP vr vT vM mz := by
  have r1 := h.rr gu hbu
  have n1 : ∀ k, ρ k ≠ .re → k ≠ gu := fun k hk e => hk (by rw [e]; exact r1)
  refine h.putArr rfl (by simp) ?_ ?_ ?_ (by rw [setCell_size]; exact Nat.le_refl _) (fun k _ _ _ h1 _ => setCell_other (n1 k h1))
  · simp only [ES.putA, Int.toNat_natCast]
    rw [flat_same (f := ucell) (x' := ⟨x.u, x.s, v⟩) hx rfl]
    exact h.un.kept (fun k hk => setCell_other (n1 k (by rw [h.ru k hk]; simp)))
  · simp only [ES.putA, Int.toNat_natCast]
    rw [flat_same (f := scell) (x' := ⟨x.u, x.s, v⟩) hx rfl]
    exact h.us.kept (fun k hk => setCell_other (n1 k (by rw [h.rs k hk]; simp)))
  · exact flat_putA rcell_len (x' := ⟨x.u, x.s, v⟩) hx rfl h.re (u := .bool v)
/-- An element of a queue. -/
theorem q_get {w : World} {A : Option Addr} {n cap : Nat} {zs : List (Value × EM)} (h : Row w 4 (.slice A n cap) (zs.flatMap qcells)) {j : Nat} {q : Value × EM} (hq : zs[j]? = some q) :
    ∃ g off, A = some ⟨g, off, none⟩ ∧ rowBlk (.slice A n cap) = some g ∧ n = zs.length ∧ w.cell? ⟨g, off + j * 4, none⟩ = some (.int .i64 ((q.2.f : Int) + 1)) ∧ w.cell? ⟨g, off + j * 4 + 1, none⟩ = some q.1 ∧ w.cell? ⟨g, off + j * 4 + 2, none⟩ = some (.int .i64 (q.2.c : Int)) ∧ w.cell? ⟨g, off + j * 4 + 3, none⟩ = some (.bool q.2.r) := by
  obtain ⟨A', n', cap', he, hn⟩ := h.form
  cases he
  rw [flat_length qcells 4 qcells_len] at hn
  have hnz : n = zs.length := by omega
  have hj : j < n := by rw [hnz]; exact (List.getElem?_eq_some_iff.1 hq).1
  obtain ⟨g, off, rfl, hbk, hc⟩ := h.at_ (i := j) hj
  have key : ∀ (i : Nat) (u : Value), i < 4 → (qcells q)[i]? = some u → w.cell? ⟨g, off + j * 4 + i, none⟩ = some u := fun i u hi hiu => by
    have h1 := hc i hi
    have h2 := flat_get qcells 4 qcells_len zs j q i u hq hiu
    rw [h2] at h1
    exact h1
  exact ⟨g, off, rfl, hbk, hnz, key 0 _ (by decide) rfl, key 1 _ (by decide) rfl, key 2 _ (by decide) rfl, key 3 _ (by decide) rfl⟩
end Go.Proofs.Ytdjaofkbgkifkaa

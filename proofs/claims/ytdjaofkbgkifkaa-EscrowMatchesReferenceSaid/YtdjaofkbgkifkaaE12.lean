/- Package escrow: Deliver of a message that is lost. -/
import Derived.Test.YtdjaofkbgkifkaaE11
set_option linter.unusedVariables false
set_option linter.unusedSimpArgs false
namespace Go.Proofs.Ytdjaofkbgkifkaa
open Go.RowKit

theorem eNext_eNext (S : ES) (a b : Int) (x y : List EM) : eNext (eNext S a b x) a b y = eNext S a b y := by
  simp only [eNext, ES.putL, ES.mk.injEq, true_and]
  funext i j
  by_cases h : i = a ∧ j = b
  · simp [h]
  · simp [h]
theorem eNext_len (S : ES) (a b : Int) (x : List EM) : (eNext S a b x).acc.length = S.acc.length := rfl
/-- The first message, in memory. -/
theorem EscAt.first {w : World} {ρ : Nat → Role} {g : Nat} {S : ES} {vA : Value} {mb : Nat} {L : List WE} {lk : Nat} {lb : Int → Int → Nat} {vT vM : Int → Int → Value} {mz : Int → Int → List (Value × EM)}
    (h : EscAt w ρ g S vA mb L lk lb vT vM mz) {a b : Int} (hp : pairB S.acc.length a b = true) {m : EM} {r : List EM} (hm : (S.ln a b).ms = m :: r) :
    ∃ A1 n1 c1 zs g0 off0 n0 cap0, mz a b = (Value.slice A1 n1 c1, m) :: zs ∧ zs.map (·.2) = r ∧ vM a b = .slice (some ⟨g0, off0, none⟩) n0 cap0 ∧ rowBlk (vM a b) = some g0 ∧ (∀ q ∈ zs, q.1.oneCell' = true) ∧ RdI ρ w (.slice A1 n1 c1) (m.tr (S.ln a b).all) := by
  have hq := h.mq a b hp
  have hi := h.im a b hp
  have hs := h.ms a b hp
  rw [hm] at hq
  cases hz : mz a b with
  | nil => rw [hz] at hq; cases hq
  | cons p zs =>
    rw [hz] at hq hi hs
    obtain ⟨v0, m0⟩ := p
    simp only [List.map_cons, List.cons.injEq] at hq
    obtain ⟨rfl, hq⟩ := hq
    have h0 := hi (v0, m0) (by simp)
    obtain ⟨A1, n1, c1, hv0, _⟩ := id h0
    simp only at hv0
    subst hv0
    obtain ⟨A, n, cap, hv, hn⟩ := hs.form
    rw [hv] at hs
    have hn0 : 0 < n := by rw [flat_length _ 4 mcells_len] at hn; simp only [List.length_cons] at hn; omega
    obtain ⟨g0, off0, rfl, hb, _⟩ := hs.at_ (i := 0) hn0
    refine ⟨A1, n1, c1, zs, g0, off0, n, cap, rfl, hq, hv, by rw [hv]; exact hb, fun q hq' => ?_, h0⟩
    obtain ⟨A2, n2, c2, e2, _⟩ := hi q (by simp [hq'])
    rw [e2]; rfl
/-- What has become of the escrow behind the queue's part; bm: the message's box. -/
structure Half (w wX : World) (F : Nat → Prop) (g : Nat) (S1 : ES) (a b : Int) (m : EM) (vA : Value) (mb : Nat) (L : List WE) (lk : Nat) (lb : Int → Int → Nat) (bm : Nat) (v1 : Value) (ρ : Nat → Role) (vT vM : Int → Int → Value) (mz : Int → Int → List (Value × EM)) : Prop where
  at_ : EscAt wX ρ g S1 vA mb L lk lb vT vM mz
  foot : ∀ k, ρ k ≠ .other → Ext F w wX k
  fr : Fr F w wX
  rd : RdI ρ wX v1 (m.tr (S1.ln a b).all)
  box : wX.heap[bm]? = some (.cells #[v1, .int .i64 (m.l : Int), .int .i64 (m.c : Int), .bool m.r] 137)
  oth : ρ bm = .other
  new : w.heap.size ≤ bm
theorem Half.esc {w wX : World} {F : Nat → Prop} {g : Nat} {S1 : ES} {a b : Int} {m : EM} {vA : Value} {mb : Nat} {L : List WE} {lk : Nat} {lb : Int → Int → Nat} {bm : Nat} {v1 : Value} {ρ : Nat → Role} {vT vM : Int → Int → Value} {mz : Int → Int → List (Value × EM)}
    (h : Half w wX F g S1 a b m vA mb L lk lb bm v1 ρ vT vM mz) : EscIs wX (Ext F w wX) g S1 := ⟨ρ, _, _, _, _, _, _, _, _, h.at_, h.foot⟩
theorem half_take {w w2 : World} {F : Nat → Prop} {ρ : Nat → Role} {g : Nat} {S : ES} {vA : Value} {mb : Nat} {L : List WE} {lk : Nat} {lb : Int → Int → Nat} {vT vM : Int → Int → Value} {mz : Int → Int → List (Value × EM)}
    (h : EscAt w ρ g S vA mb L lk lb vT vM mz) (hF : ∀ k, ρ k ≠ .other → F k) (hcut : ∀ k, w.heap.size ≤ k → ρ k = .other) {a b : Int} (hp : pairB S.acc.length a b = true) {m : EM} {r : List EM} {A1 : Option Addr} {n1 c1 : Nat} {zs : List (Value × EM)} {g0 off0 n0 cap0 : Nat}
    (hz : mz a b = (Value.slice A1 n1 c1, m) :: zs) (hq : zs.map (·.2) = r) (hv : vM a b = .slice (some ⟨g0, off0, none⟩) n0 cap0) (hb : rowBlk (vM a b) = some g0) (hrd : RdI ρ w (.slice A1 n1 c1) (m.tr (S.ln a b).all))
    (hr2 : Row w2 4 (.slice (some ⟨g0, off0, none⟩) (n0 - 1) cap0) (zs.flatMap mcells)) (hl2 : w2.heap[lb a b]? = some (.cells #[vT a b, .int .i64 ((S.ln a b).all.length : Int), .int .i64 ((S.ln a b).rcv : Int), .slice (some ⟨g0, off0, none⟩) (n0 - 1) cap0] 109))
    (hf2 : Fr (fun k => k = lb a b ∨ k = g0) w w2) :
    ∃ ρ1, Half w (w2.alloc (.cells #[.slice A1 n1 c1, .int .i64 m.l, .int .i64 m.c, .bool m.r] 137)) F g (eNext S a b r) a b m vA mb L lk lb w2.heap.size (.slice A1 n1 c1) ρ1 vT (upd2 vM a b (.slice (some ⟨g0, off0, none⟩) (n0 - 1) cap0)) (upd2 mz a b zs) ∧ (∀ k, w2.heap.size ≤ k → ρ1 k = .other) := by
  have hlL : F (lb a b) := hF _ (by rw [h.rl a b hp]; simp)
  have hgL : F g0 := hF _ (by rw [h.rs a b hp g0 hb]; simp)
  obtain ⟨ρ1, E1, r1, r4, hk⟩ := h.putQ (w3 := w2) (v3 := .slice (some ⟨g0, off0, none⟩) (n0 - 1) cap0) (z' := zs) (ms' := r) hcut hp hr2 hq (fun q hq' => h.im a b hp q (by rw [hz]; simp [hq'])) (fun k hk => by
    have hk' : rowBlk (.slice (some ⟨g0, off0, none⟩) n0 cap0) = some k := hk
    rw [← hv] at hk'; exact .inl hk') hl2 (hf2.mono (fun k _ e => by
      rcases e with e | e
      · exact .inl e
      · exact .inr (by rw [e]; exact hb)))
  have hfa : Fr None' w2 (w2.alloc (.cells #[.slice A1 n1 c1, .int .i64 m.l, .int .i64 m.c, .bool m.r] 137)) := (Fr.refl _ _).alloc _
  have hsz : (w2.alloc (.cells #[.slice A1 n1 c1, .int .i64 m.l, .int .i64 m.c, .bool m.r] 137)).heap.size = w2.heap.size + 1 := by simp
  refine ⟨ρ1, ⟨E1.fr hfa (fun _ _ h => h), fun k hk' => ?_, ?_, ?_, heap_alloc_new _ _, r4 _ (Nat.le_refl _), hf2.size⟩, r4⟩
  · rcases Nat.lt_or_ge k w.heap.size with h1 | h1
    · rw [r1 k h1] at hk'; exact .inl (hF k hk')
    · rcases Nat.lt_or_ge k w2.heap.size with h2 | h2
      · exact .inr ⟨h1, by omega⟩
      · rw [r4 k h2] at hk'; exact absurd rfl hk'
  · exact (hf2.mono (fun k _ e => by rcases e with e | e <;> (rw [e]; assumption))).trans0 hfa
  · have e : ((eNext S a b r).ln a b).all = (S.ln a b).all := by simp only [eNext, ES.putL_same]
    rw [e]
    refine RdI.keep ?_ hfa.size (fun k hk _ => hfa.block k hk (fun h => h))
    exact hrd.keep' hf2.size (fun k _ hi => hk k hi) (fun k hk' hi => by rw [r1 k hk']; exact hi)
theorem half_put {w wX w4 : World} {F : Nat → Prop} {g : Nat} {S1 : ES} {a b : Int} {m : EM} {vA : Value} {mb : Nat} {L : List WE} {lk : Nat} {lb : Int → Int → Nat} {bm : Nat} {v1 v3 : Value} {ρ : Nat → Role} {vT vM : Int → Int → Value} {mz : Int → Int → List (Value × EM)}
    (h : Half w wX F g S1 a b m vA mb L lk lb bm v1 ρ vT vM mz) (hcut : ∀ k, wX.heap.size ≤ k → ρ k = .other) (hp : pairB S1.acc.length a b = true)
    (hr3 : Row w4 4 v3 ((mz a b ++ [(v1, m)]).flatMap mcells)) (hb3 : ∀ k, rowBlk v3 = some k → rowBlk (vM a b) = some k ∨ (wX.heap.size ≤ k ∧ k < w4.heap.size))
    (hl3 : w4.heap[lb a b]? = some (.cells #[vT a b, .int .i64 ((S1.ln a b).all.length : Int), .int .i64 ((S1.ln a b).rcv : Int), v3] 109)) (hf3 : Fr (fun k => k = lb a b ∨ rowBlk (vM a b) = some k) wX w4) :
    ∃ ρ1, Half w w4 F g (eNext S1 a b ((S1.ln a b).ms ++ [m])) a b m vA mb L lk lb bm v1 ρ1 vT (upd2 vM a b v3) (upd2 mz a b (mz a b ++ [(v1, m)])) ∧ (∀ k, w4.heap.size ≤ k → ρ1 k = .other) := by
  have hq : (mz a b ++ [(v1, m)]).map (·.2) = (S1.ln a b).ms ++ [m] := by rw [List.map_append, h.at_.mq a b hp]; rfl
  obtain ⟨ρ1, E1, r1, r4, hk⟩ := h.at_.putQ hcut hp hr3 hq (fun q hq' => by
    rcases List.mem_append.1 hq' with h1 | h1
    · exact h.at_.im a b hp q h1
    · simp only [List.mem_singleton] at h1; subst h1; exact h.rd) hb3 hl3 hf3
  have hL := h.at_.rl a b hp
  have hM := h.at_.rs a b hp
  have hbl : bm < wX.heap.size := (Array.getElem?_eq_some_iff.1 h.box).1
  have hne : ¬ (bm = lb a b ∨ rowBlk (vM a b) = some bm) := by
    have := h.oth
    rintro (e | e)
    · rw [e, hL] at this; cases this
    · rw [hM bm e] at this; cases this
  refine ⟨ρ1, ⟨E1, fun k hk' => ?_, ?_, ?_, hf3.heap h.box hne, by rw [r1 bm hbl]; exact h.oth, h.new⟩, r4⟩
  · rcases Nat.lt_or_ge k wX.heap.size with h1 | h1
    · rw [r1 k h1] at hk'
      rcases h.foot k hk' with h2 | h2
      · exact .inl h2
      · exact .inr ⟨h2.1, by have := hf3.size; omega⟩
    · rcases Nat.lt_or_ge k w4.heap.size with h2 | h2
      · exact .inr ⟨by have := h.fr.size; omega, h2⟩
      · rw [r4 k h2] at hk'; exact absurd rfl hk'
  · refine h.fr.trans hf3 (fun i hi e => ?_)
    have hx : Ext F w wX i := h.foot i (by
      rcases e with e | e
      · rw [e, hL]; simp
      · rw [hM i e]; simp)
    rcases hx with hx | hx
    · exact hx
    · omega
  · have e : ((eNext S1 a b ((S1.ln a b).ms ++ [m])).ln a b).all = (S1.ln a b).all := by simp only [eNext, ES.putL_same]
    rw [e]
    exact h.rd.keep' hf3.size (fun k _ hi => hk k hi) (fun k hk' hi => by rw [r1 k hk']; exact hi)
end Go.Proofs.Ytdjaofkbgkifkaa

/- Package escrow: what New makes. -/
import Derived.Test.YtdjaofkbgkifkaaE18
set_option linter.unusedVariables false
set_option linter.unusedSimpArgs false
namespace Go.Proofs.Ytdjaofkbgkifkaa
open Go.RowKit

def eNew (n : Nat) (u : Int) : ES := ⟨(List.replicate n ⟨0, 0, false⟩).set 0 ⟨u, 0, false⟩, fun _ _ => EL.nil⟩
theorem eNew_len (n : Nat) (u : Int) : (eNew n u).acc.length = n := by simp [eNew]
def zline : List Value := [.slice none 0 0, .int .i64 0, .int .i64 0, .slice none 0 0]
def wblk (e : WE) : Nat := match e.v with | .pointer (some a) => a.block | _ => 0
structure NL (w : World) (B : Nat) (mb : Nat) (P : List (Int × Int)) (L : List WE) (lk : Nat) : Prop where
  map : w.heap[mb]? = some (.map (went L) lk)
  ok : WOK L lk
  ks : (List.map (fun e : WE => (e.a, e.b)) L) = P
  kd : P.Nodup
  bl : ∀ e ∈ L, e.v = .pointer (some ⟨wblk e, 0, none⟩) ∧ B ≤ wblk e ∧ wblk e < w.heap.size ∧ w.heap[wblk e]? = some (.cells zline.toArray 109)
  bd : (L.map wblk).Nodup
theorem whas_of_keys {L : List WE} {P : List (Int × Int)} (h : (List.map (fun e : WE => (e.a, e.b)) L) = P) {a b : Int} (hn : (a, b) ∉ P) : whas a b L = false := by
  unfold whas
  rw [List.any_eq_false]
  intro e he hh
  simp only [WE.is, Bool.and_eq_true, beq_iff_eq] at hh
  exact hn (by rw [← h]; exact List.mem_map.2 ⟨e, he, by rw [hh.1, hh.2]⟩)
theorem NL.step {w w1 w2 : World} {B mb : Nat} {P : List (Int × Int)} {L : List WE} {lk : Nat} (h : NL w B mb P L lk) (hmb : mb < B) (hB : B ≤ w.heap.size) {a b : Int} (hn : (a, b) ∉ P) (h1 : w1 = w.alloc (.cells zline.toArray 109))
    (h2 : w2 = World.setObj w1 mb (.map (went (wput a b (.pointer (some ⟨w.heap.size, 0, none⟩)) lk L)) (if whas a b L then lk else lk + 1))) :
    NL w2 B mb (P ++ [(a, b)]) (L ++ [⟨a, b, .pointer (some ⟨w.heap.size, 0, none⟩), lk⟩]) (lk + 1) := by
  have hw := whas_of_keys h.ks hn
  have hput := wput_new a b (.pointer (some ⟨w.heap.size, 0, none⟩)) lk L hw
  have hs1 : w1.heap.size = w.heap.size + 1 := by rw [h1]; simp
  have hs2 : w2.heap.size = w.heap.size + 1 := by rw [h2, World.setObj_size, hs1]
  have hm1 : w1.heap[mb]? = some (.map (went L) lk) := by
    rw [h1, Below.heap_alloc _ _ _ (Array.getElem?_eq_some_iff.1 h.map).1]; exact h.map
  have ok := h.ok.put a b (.pointer (some ⟨w.heap.size, 0, none⟩))
  rw [hput, hw] at ok
  simp only [Bool.false_eq_true, if_false] at ok
  refine ⟨?_, ok, ?_, ?_, ?_, ?_⟩
  · rw [h2, World.setObj_same hm1, hput, hw]; simp
  · rw [List.map_append, h.ks]; rfl
  · exact List.nodup_append.2 ⟨h.kd, by simp, fun x hx y hy e => by simp at hy; subst hy; subst e; exact hn hx⟩
  · intro e he
    rcases List.mem_append.1 he with he | he
    · obtain ⟨b1, b2, b3, b4⟩ := h.bl e he
      refine ⟨b1, b2, by omega, ?_⟩
      rw [h2, World.setObj_other (by omega), h1, Below.heap_alloc _ _ _ b3]; exact b4
    · simp only [List.mem_singleton] at he
      subst he
      refine ⟨rfl, hB, ?_, ?_⟩
      · show w.heap.size < _; omega
      · show w2.heap[w.heap.size]? = _
        rw [h2, World.setObj_other (by omega), h1]
        exact heap_alloc_new w _
  · rw [List.map_append]
    refine List.nodup_append.2 ⟨h.bd, by simp, fun x hx y hy e => ?_⟩
    obtain ⟨z, hz, rfl⟩ := List.mem_map.1 hx
    simp only [List.map_cons, List.map_nil, List.mem_singleton] at hy
    have := (h.bl z hz).2.2.1
    have h3 : y = w.heap.size := hy
    omega
theorem wval_mem {a b : Int} {z : Value} : ∀ {L : List WE}, (a, b) ∈ (List.map (fun e : WE => (e.a, e.b)) L) → ∃ e ∈ L, e.a = a ∧ e.b = b ∧ wval a b z L = e.v
  | [], h => by simp at h
  | e :: r, h => by
    by_cases he : e.is a b = true
    · simp only [WE.is, Bool.and_eq_true, beq_iff_eq] at he
      exact ⟨e, by simp, he.1.symm, he.2.symm, by simp [wval, WE.is, he.1, he.2]⟩
    · have h' : (a, b) ∈ (List.map (fun e : WE => (e.a, e.b)) r) := by
        simp only [List.map_cons, List.mem_cons] at h
        rcases h with h | h
        · exfalso; apply he
          simp only [Prod.mk.injEq] at h
          simp [WE.is, h.1, h.2]
        · exact h
      obtain ⟨x, hx, h1, h2, h3⟩ := wval_mem (z := z) h'
      exact ⟨x, by simp [hx], h1, h2, by simp only [wval, if_neg he]; exact h3⟩
theorem key_inj {L : List WE} (h : (List.map (fun e : WE => (e.a, e.b)) L).Nodup) {x y : WE} (hx : x ∈ L) (hy : y ∈ L) (ha : x.a = y.a) (hb : x.b = y.b) : x = y := by
  induction L with
  | nil => simp at hx
  | cons e r ih =>
    rw [List.map_cons, List.nodup_cons] at h
    rcases List.mem_cons.1 hx with e1 | hx1
    · rcases List.mem_cons.1 hy with e2 | hy1
      · exact e1.trans e2.symm
      · exact absurd (List.mem_map.2 ⟨y, hy1, by rw [← ha, ← hb, e1]⟩) h.1
    · rcases List.mem_cons.1 hy with e2 | hy1
      · exact absurd (List.mem_map.2 ⟨x, hx1, by rw [ha, hb, e2]⟩) h.1
      · exact ih h.2 hx1 hy1
theorem blk_inj {L : List WE} (h : (L.map wblk).Nodup) {x y : WE} (hx : x ∈ L) (hy : y ∈ L) (hb : wblk x = wblk y) : x = y := by
  induction L with
  | nil => simp at hx
  | cons e r ih =>
    rw [List.map_cons, List.nodup_cons] at h
    rcases List.mem_cons.1 hx with e1 | hx1
    · rcases List.mem_cons.1 hy with e2 | hy1
      · exact e1.trans e2.symm
      · exact absurd (List.mem_map.2 ⟨y, hy1, by rw [← hb, e1]⟩) h.1
    · rcases List.mem_cons.1 hy with e2 | hy1
      · exact absurd (List.mem_map.2 ⟨x, hx1, by rw [hb, e2]⟩) h.1
      · exact ih h.2 hx1 hy1
theorem pairs_of {n : Nat} {a b : Int} (h : pairB n a b = true) : (a, b) ∈ pairsOf n := by
  simp only [pairB, decide_eq_true_eq] at h
  obtain ⟨h1, h2, h3, h4, h5⟩ := h
  obtain ⟨x, rfl⟩ := Int.eq_ofNat_of_zero_le h1
  obtain ⟨y, rfl⟩ := Int.eq_ofNat_of_zero_le h3
  unfold pairsOf
  refine List.mem_flatMap.2 ⟨x, List.mem_range.2 (by omega), List.mem_map.2 ⟨y, List.mem_filter.2 ⟨List.mem_range.2 (by omega), ?_⟩, rfl⟩⟩
  have : x ≠ y := fun e => h5 (by rw [e])
  simp [this]
/-- A whole escrow. -/
theorem NL.esc {w : World} {g mb ga n : Nat} {L : List WE} {lk : Nat} {u : Int} {off cap : Nat} {B : Nat} (h : NL w B mb (pairsOf n) L lk) (hg : g < B) (hm : mb < B) (ha : ga < B) (h1 : g ≠ mb) (h2 : g ≠ ga) (h3 : mb ≠ ga)
    (hobj : w.heap[g]? = some (.cells #[.slice (some ⟨ga, off, none⟩) n cap, .map (some mb)] 101)) (hacc : Row w 3 (.slice (some ⟨ga, off, none⟩) n cap) ((eNew n u).acc.flatMap Acc.cells)) :
    EscIs w (fun k => k = g ∨ k = mb ∨ k = ga ∨ (B ≤ k ∧ k < w.heap.size)) g (eNew n u) := by
  obtain ⟨lb, hlb⟩ : ∃ lb : Int → Int → Nat, lb = fun a b => match wval a b (.pointer none) L with | .pointer (some p) => p.block | _ => 0 := ⟨_, rfl⟩
  have key : ∀ a b, pairB n a b = true → ∃ e ∈ L, e.a = a ∧ e.b = b ∧ wval a b (.pointer none) L = .pointer (some ⟨wblk e, 0, none⟩) ∧ lb a b = wblk e := by
    intro a b hp
    obtain ⟨e, he, x1, x2, x3⟩ := wval_mem (z := .pointer none) (L := L) (by rw [h.ks]; exact pairs_of hp)
    rw [(h.bl e he).1] at x3
    exact ⟨e, he, x1, x2, x3, by rw [hlb]; simp only [x3]⟩
  obtain ⟨ρ, hρ⟩ : ∃ ρ : Nat → Role, ρ = fun k => if k = g then .main else if k = mb then .map else if k = ga then .acc else match L.find? (fun e => wblk e == k) with | some e => .line e.a e.b | none => .other := ⟨_, rfl⟩
  have rline : ∀ e ∈ L, ρ (wblk e) = .line e.a e.b := by
    intro e he
    have hb := (h.bl e he).2.1
    rw [hρ]
    simp only [if_neg (show ¬ wblk e = g by omega), if_neg (show ¬ wblk e = mb by omega), if_neg (show ¬ wblk e = ga by omega)]
    cases hf : L.find? (fun x => wblk x == wblk e) with
    | none =>
      have := List.find?_eq_none.1 hf e he
      simp at this
    | some x =>
      have hx := List.mem_of_find?_eq_some hf
      have hxe := List.find?_some hf
      simp only [beq_iff_eq] at hxe
      rw [blk_inj h.bd hx he hxe]
  have hn : (eNew n u).acc.length = n := eNew_len n u
  refine ⟨ρ, _, mb, L, lk, lb, fun _ _ => .slice none 0 0, fun _ _ => .slice none 0 0, fun _ _ => [], ⟨hobj, hacc, h.map, h.ok, ?_, ?_, ?_, ?_, ?_, ?_, ?_, ?_, ?_, ?_, ?_, ?_, ?_, ?_⟩, ?_⟩
  · intro a b
    rw [hn]
    by_cases hp : pairB n a b = true
    · obtain ⟨e, he, x1, x2, x3, x4⟩ := key a b hp
      rw [if_pos hp, x3, x4]
    · rw [if_neg hp]
      refine wval_none (whas_of_keys h.ks (fun hm => hp (pairs_mem hm)))
  · intro a b hp
    rw [hn] at hp
    obtain ⟨e, he, x1, x2, x3, x4⟩ := key a b hp
    rw [x4]
    exact (h.bl e he).2.2.2
  · intro a b hp; exact Row.nil _ _ _
  · intro a b hp; exact Row.nil _ _ _
  · intro a b hp; rfl
  · intro a b hp p hp'; cases hp'
  · rw [hρ]; simp
  · intro k hk
    have : ga = k := by
      simp only [rowBlk] at hk
      split at hk
      · cases hk
      · exact Option.some.inj hk
    rw [← this, hρ]
    simp [Ne.symm h2, Ne.symm h3]
  · rw [hρ]; simp [Ne.symm h1]
  · intro a b hp
    rw [hn] at hp
    obtain ⟨e, he, x1, x2, x3, x4⟩ := key a b hp
    rw [x4, rline e he, x1, x2]
  · intro a b hp k hk; simp [rowBlk] at hk
  · intro a b hp k hk; simp [rowBlk] at hk
  · rw [hn]; exact h.ks
  · intro e he
    have hp : pairB n e.a e.b = true := pairs_mem (by rw [← h.ks]; exact List.mem_map.2 ⟨e, he, rfl⟩)
    obtain ⟨e', he', x1, x2, x3, x4⟩ := key e.a e.b hp
    have : e' = e := key_inj (by rw [h.ks]; exact h.kd) he' he x1 x2
    subst this
    rw [x4]; exact (h.bl e' he').1
  · intro k hk
    rw [hρ] at hk
    simp only [] at hk
    split at hk
    · exact .inl ‹_›
    · split at hk
      · exact .inr (.inl ‹_›)
      · split at hk
        · exact .inr (.inr (.inl ‹_›))
        · cases hf : L.find? (fun e => wblk e == k) with
          | none => rw [hf] at hk; exact absurd rfl hk
          | some e =>
            have hx := List.mem_of_find?_eq_some hf
            have hxe := List.find?_some hf
            simp only [beq_iff_eq] at hxe
            obtain ⟨_, b2, b3, _⟩ := h.bl e hx
            exact .inr (.inr (.inr ⟨by omega, by omega⟩))
theorem eNew_inv {n : Nat} {u : Int} (h1 : 1 ≤ n) (h8 : n ≤ 8) (hu : 0 ≤ u) (t : Nat) : Inv u t (eNew n u) := by
  have hlen := eNew_len n u
  have hr : (List.replicate n (⟨0, 0, false⟩ : Acc))[0]? = some ⟨0, 0, false⟩ := by rw [List.getElem?_replicate, if_pos (by omega)]
  refine ⟨⟨by omega, by omega, ?_, ?_, ?_, ?_, ?_, ?_, ?_, ?_⟩, ?_⟩
  · intro i x hx
    simp only [eNew] at hx
    rw [List.getElem?_set] at hx
    split at hx
    · split at hx
      · cases hx; exact ⟨hu, Int.le_refl 0⟩
      · cases hx
    · have := List.mem_of_getElem? hx
      rw [List.eq_of_mem_replicate this]
      exact ⟨by decide, by decide⟩
  · intro a b p; exact Nat.le_refl _
  · intro a b p; exact Nat.le_refl _
  · intro a b p; exact Nat.zero_le _
  · intro a b p; exact Nat.zero_le _
  · intro a b p x hx; cases hx
  · intro a b p; exact Nat.zero_le _
  · intro a b p m hm; cases hm
  · have e1 := sum_set_map (·.u) _ 0 _ (⟨u, 0, false⟩ : Acc) hr
    have e2 := sum_set_map (·.s) _ 0 _ (⟨u, 0, false⟩ : Acc) hr
    have e3 : eFly (eNew n u) = 0 := by
      unfold eFly gsum
      have : ∀ a b : Nat, (if a = b then (0 : Int) else ((eNew n u).ln a b).fly) = 0 := by intro a b; split <;> rfl
      simp only [this]
      have z : ∀ l : List Nat, (l.map fun _ => (0 : Int)).sum = 0 := by intro l; induction l with | nil => rfl | cons x r ih => rw [List.map_cons, List.sum_cons, ih]; rfl
      simp only [z]
    have z1 : ((List.replicate n (⟨0, 0, false⟩ : Acc)).map (·.u)).sum = 0 := by rw [List.map_replicate]; clear hr e1 e2 e3 hlen h1 h8; induction n with | zero => rfl | succ n ih => rw [List.replicate_succ, List.sum_cons, ih]; rfl
    have z2 : ((List.replicate n (⟨0, 0, false⟩ : Acc)).map (·.s)).sum = 0 := by rw [List.map_replicate]; clear hr e1 e2 e3 hlen h1 h8 z1; induction n with | zero => rfl | succ n ih => rw [List.replicate_succ, List.sum_cons, ih]; rfl
    have f1 : eUnits (eNew n u) = u := by show (((List.replicate n (⟨0, 0, false⟩ : Acc)).set 0 ⟨u, 0, false⟩).map (·.u)).sum = u; rw [e1, z1]; simp
    have f2 : eSpent (eNew n u) = 0 := by show (((List.replicate n (⟨0, 0, false⟩ : Acc)).set 0 ⟨u, 0, false⟩).map (·.s)).sum = 0; rw [e2, z2]; simp
    rw [f1, f2, e3]; simp
end Go.Proofs.Ytdjaofkbgkifkaa

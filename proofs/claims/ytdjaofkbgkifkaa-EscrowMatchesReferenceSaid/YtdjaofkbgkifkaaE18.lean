/- Package escrow: Flying. -/
import Derived.Test.YtdjaofkbgkifkaaE17
import Derived.Test.YtdjaofkbgkifkaaTape
import Derived.Laws.IdiomRangeMap
set_option linter.unusedVariables false
set_option linter.unusedSimpArgs false
namespace Go.Proofs.Ytdjaofkbgkifkaa
open Go.RowKit

theorem sum_flatMap {α : Type} (f : α → List Int) : ∀ (l : List α), (l.flatMap f).sum = (l.map fun a => (f a).sum).sum
  | [] => rfl
  | x :: l => by rw [List.flatMap_cons, List.sum_append, List.map_cons, List.sum_cons, sum_flatMap f l]
theorem sum_filter (f : Nat → Int) (p : Nat → Bool) : ∀ (l : List Nat), ((l.filter p).map f).sum = (l.map fun x => if p x then f x else 0).sum
  | [] => rfl
  | x :: l => by
    rw [List.filter_cons, List.map_cons, List.sum_cons, ← sum_filter f p l]
    by_cases h : p x = true
    · simp [h]
    · simp [h]
/-- A sum over all pairs. -/
theorem pairs_sum (n : Nat) (f : Int → Int → Int) : ((pairsOf n).map fun p => f p.1 p.2).sum = gsum n (fun a b => if a = b then 0 else f a b) := by
  unfold pairsOf gsum
  rw [List.map_flatMap, sum_flatMap]
  congr 1
  refine List.map_congr_left (fun a _ => ?_)
  rw [List.map_map, sum_filter]
  congr 1
  refine List.map_congr_left (fun b _ => ?_)
  by_cases h : a = b
  · simp [h]
  · simp [h]
/-- The map's entries with what flies on their lines. -/
def flyEnt (S : ES) (L : List WE) : List MapEntry := L.map fun e => { key := wkey e.a e.b, val := .int .i64 (S.ln e.a e.b).fly, born := e.n }
theorem flyEnt_born (S : ES) (L : List WE) : (flyEnt S L).map (·.born) = L.map (·.n) := by simp [flyEnt]
theorem flyEnt_sum {w : World} {ρ : Nat → Role} {g : Nat} {S : ES} {vA : Value} {mb : Nat} {L : List WE} {lk : Nat} {lb : Int → Int → Nat} {vT vM : Int → Int → Value} {mz : Int → Int → List (Value × EM)}
    (h : EscAt w ρ g S vA mb L lk lb vT vM mz) : ((flyEnt S L).map fun e => valOf e.val).sum = eFly S := by
  have e1 : ((flyEnt S L).map fun e => valOf e.val) = (L.map fun e => (e.a, e.b)).map fun p => (S.ln p.1 p.2).fly := by
    simp [flyEnt, valOf]
  rw [e1, h.ks]
  exact pairs_sum S.acc.length (fun a b => (S.ln a b).fly)
theorem pairs_mem {n : Nat} {a b : Int} (h : (a, b) ∈ pairsOf n) : pairB n a b = true := by
  unfold pairsOf at h
  obtain ⟨x, hx, h⟩ := List.mem_flatMap.1 h
  obtain ⟨y, hy, h⟩ := List.mem_map.1 h
  obtain ⟨hy1, hy2⟩ := List.mem_filter.1 hy
  cases h
  have h1 := List.mem_range.1 hx
  have h2 := List.mem_range.1 hy1
  refine nat_pair h1 h2 (fun e => ?_)
  subst e
  simp at hy2
theorem EscAt.entry {w : World} {ρ : Nat → Role} {g : Nat} {S : ES} {vA : Value} {mb : Nat} {L : List WE} {lk : Nat} {lb : Int → Int → Nat} {vT vM : Int → Int → Value} {mz : Int → Int → List (Value × EM)}
    (h : EscAt w ρ g S vA mb L lk lb vT vM mz) {e : WE} (he : e ∈ L) : pairB S.acc.length e.a e.b = true :=
  pairs_mem (by rw [← h.ks]; exact List.mem_map.2 ⟨e, he, rfl⟩)
theorem seenSum_nonneg (es : List MapEntry) (h : ∀ e ∈ es, 0 ≤ valOf e.val) (seen : Array Nat) : 0 ≤ seenSum es seen ∧ seenSum es seen ≤ (es.map fun e => valOf e.val).sum := by
  induction es with
  | nil => simp [seenSum]
  | cons x l ih =>
    have h1 := h x (by simp)
    have h2 := ih (fun e he => h e (by simp [he]))
    simp only [seenSum, List.map_cons, List.sum_cons]
    split <;> omega
theorem went_born (L : List WE) : ((went L).toList.map (·.born)) = L.map (·.n) := by simp [went, WE.ent]
theorem mem_went {L : List WE} {e : MapEntry} (h : e ∈ (went L).toList) : ∃ x ∈ L, e = x.ent := by
  simp only [went, List.toList_toArray, List.mem_map] at h
  obtain ⟨x, hx, rfl⟩ := h
  exact ⟨x, hx, rfl⟩
theorem mem_flyEnt (S : ES) {L : List WE} {x : WE} (h : x ∈ L) : ({ key := wkey x.a x.b, val := .int .i64 (S.ln x.a x.b).fly, born := x.n } : MapEntry) ∈ flyEnt S L := List.mem_map.2 ⟨x, h, rfl⟩
theorem flyEnt_all (S : ES) (L : List WE) (seen : Array Nat) (h : (leftOf (went L) seen).size = 0) : seenSum (flyEnt S L) seen = ((flyEnt S L).map fun e => valOf e.val).sum := by
  refine seenSum_full seen _ (fun x hx => ?_)
  obtain ⟨y, hy, rfl⟩ := List.mem_map.1 hx
  exact all_seen (went L) seen h y.ent (by simp only [went, List.toList_toArray]; exact List.mem_map.2 ⟨y, hy, rfl⟩)
theorem Fr.alike {w w1 : World} (h : w1.Alike w) (ht : w1.tape = w.tape) : Fr None' w w1 := ⟨h.2.1, ht, h.2.2, by rw [h.1]; exact Nat.le_refl _, fun k _ _ => by rw [h.1]⟩
theorem flying_nil (w : World) : Calls Try.prog 32 #[.pointer none] w fun e w' => e = .returned (.int .i64 0) ∧ w' = w := by
  go_enter Try.func32, Try.ntmps32
  go_wp2_with fail
  go_ret
  exact ⟨rfl, rfl⟩
set_option maxHeartbeats 4000000 in
set_option maxRecDepth 1000000 in
theorem flying_ok {U : Int} {t : Nat} {w : World} {F : Nat → Prop} {g : Nat} {S : ES} (h : EscIs w F g S) (hU : U ≤ 1000000000) (hI : Inv U t S) (ht : t ≤ 1000000) :
    Calls Try.prog 32 #[.pointer (some ⟨g, 0, none⟩)] w fun e w' => e = .returned (.int .i64 (eFly S)) ∧ Fr None' w w' := by
  obtain ⟨ρ, vA, mb, L, lk, lb, vT, vM, mz, h, _⟩ := h
  obtain ⟨_, c1⟩ := h.cells
  have hrg := run_range_map (P := Try.prog) w 99 110 104 mb (went L) lk Try.underlying99 h.map
  have hborn : ∀ x ∈ (went L).toList, x.born < lk := by
    intro x hx
    obtain ⟨y, hy, rfl⟩ := mem_went hx
    exact h.ok.1 y hy
  have hnd : ((went L).toList.map (·.born)).Nodup := by rw [went_born]; exact h.ok.2
  have Hh := Lib.hid h
  have HI := Lib.hid hI
  have HU := Lib.hid hU
  have Ht := Lib.hid ht
  have Hborn := Lib.hid hborn
  have Hnd := Lib.hid hnd
  clear h hI hU ht hborn hnd
  go_enter Try.func32, Try.ntmps32
  go_wp2_with fail
  go_loopw [3] (fun s w' => ∃ (w1 : World) (seen : Array Nat), w1.Alike w ∧ w1.tape = w.tape ∧ w' = w1.alloc (.mapIter (some mb) lk seen lk) ∧ s = .int .i64 (seenSum (flyEnt S L) seen)) (fun _ w' => (leftOf (went L) (w'.iterSeen w.heap.size)).size)
  case atStart => exact ⟨w, #[], ⟨rfl, rfl, rfl⟩, rfl, rfl, by rw [seenSum_none]⟩
  case round =>
    obtain ⟨w1, seen, hal, htp, rfl, rfl⟩ := hrel
    have hsz : w1.heap.size = w.heap.size := by rw [hal.1]
    have hb1 : w1.heap[mb]? = some (.map (went L) lk) := by rw [hal.1]; exact Hh.out.map
    have law := run_next_map (P := Try.prog) w1 0 mb lk lk seen (went L) lk hb1 Hborn.out (Nat.le_refl _)
    rw [hsz] at law
    rcases law with ⟨h0, hrun⟩ | ⟨e, he, w2, hal2, hrun⟩
    · have hnx : ∀ ty, (Instr.next (.pointer (some ⟨w.heap.size, 0, none⟩)) false ty).run Try.prog (w1.alloc (.mapIter (some mb) lk seen lk)) = _ := fun _ => hrun
      have Hs := Lib.hid (flyEnt_all S L seen h0)
      have Hal := Lib.hid (Fr.alike hal htp)
      clear hal htp hsz hb1 h0 hrun
      go_wp2_with fail
      go_ret
      exact ⟨by rw [Hs.out, flyEnt_sum Hh.out]; rfl, Hal.out.alloc _⟩
    · obtain ⟨x, hx, rfl⟩ := mem_went (mem_left he).1
      have hp := Hh.out.entry hx
      have hxv : x.ent.val = .pointer (some ⟨lb x.a x.b, 0, none⟩) := Hh.out.ev x hx
      rw [hxv] at hrun
      have hnx : ∀ ty, (Instr.next (.pointer (some ⟨w.heap.size, 0, none⟩)) false ty).run Try.prog (w1.alloc (.mapIter (some mb) lk seen lk)) = _ := fun _ => hrun
      have hsz2 : w2.heap.size = w.heap.size := by rw [hal2.1, hal.1]
      have hb2 : w2.heap[mb]? = some (.map (went L) lk) := by rw [hal2.1]; exact hb1
      have hen := run_entry_map (P := Try.prog) w2 mb lk seen (went L) lk x.ent hb2 (mem_left he).1 Hnd.out
      rw [hsz2, hxv] at hen
      have htp2 : w2.tape = w.tape := (KT.next _ 0 _ _ _ hrun).trans htp
      have hal3 : w2.Alike w := ⟨hal2.1.trans hal.1, hal2.2.1.trans hal.2.1, hal2.2.2.trans hal.2.2⟩
      have hFr : Fr None' w (w2.alloc (.mapIter (some mb) lk (seen.push x.ent.born) lk)) := (Fr.alike hal3 htp2).alloc _
      have hE := Hh.out.fr hFr (fun _ _ h => h)
      obtain ⟨l0, l1, l2, _, _⟩ := hE.lcells hp
      obtain ⟨A, cap, hv⟩ := tr_form (hE.tr x.a x.b hp)
      rw [hv] at l0
      have hok := HI.out.sh.ok hp
      have hrow := hE.tr x.a x.b hp
      rw [hv] at hrow
      obtain ⟨l, hl⟩ : ∃ l, l = S.ln x.a x.b := ⟨_, rfl⟩
      rw [← hl] at hok hrow l0 l1 l2
      obtain ⟨K, hK⟩ : ∃ K, K = l.all.length := ⟨_, rfl⟩
      have ok1 := hok.cr
      have ok2 := hok.ra
      have ok3 := hok.tm
      rw [← hK] at l0 l1 ok2 ok3 hrow
      have hKm : K ≤ 1000000 := Nat.le_trans ok3 Ht.out
      have hcap : K - l.conf ≤ cap := by obtain ⟨_, _, _, he, _, h3, _⟩ := hrow; cases he; exact h3
      have hsub := hrow.sub (l.rcv - l.conf) (K - l.conf) cap (by omega) (Nat.le_refl _) hcap (Nat.le_refl _)
      obtain ⟨A1, hA1⟩ : ∃ A1, A1 = (if cap = l.rcv - l.conf then A else A.map (·.add ((l.rcv - l.conf) * 1))) := ⟨_, rfl⟩
      rw [← hA1] at hsub
      have e1 : (((l.all.drop l.conf).flatMap icell).drop ((l.rcv - l.conf) * 1)).take ((K - l.conf - (l.rcv - l.conf)) * 1) = (l.all.drop l.rcv).flatMap icell := by
        have hl2 : ((l.all.drop l.conf).flatMap icell).length = K - l.conf := by rw [flat_length _ 1 icell_len, List.length_drop, ← hK, Nat.mul_one]
        rw [Nat.mul_one, Nat.mul_one, List.take_of_length_le (by rw [List.length_drop, hl2]; exact Nat.le_refl _)]
        show (ints (l.all.drop l.conf)).drop (l.rcv - l.conf) = ints _
        rw [ints_map, ints_map, ← List.map_drop, List.drop_drop]
        congr 2
        omega
      rw [e1] at hsub
      have e2 : K - l.conf - (l.rcv - l.conf) = K - l.rcv := by omega
      rw [e2] at hsub
      have hsl := fun W : World => run_slice_lo (P := Try.prog) W 74 3 1 Try.underlying74 (by kernel_rfl) A (K - l.conf) cap .i64 (l.rcv - l.conf) (by omega)
      rw [← hA1, e2] at hsl
      have w1' : IntKind.i64.wrap ((K : Int) - (l.rcv : Int)) = (K : Int) - (l.rcv : Int) := by rw [IntKind.wrap_i64]; omega
      have w2' : IntKind.i64.wrap (((K - l.conf : Nat) : Int) - ((K : Int) - (l.rcv : Int))) = ((l.rcv - l.conf : Nat) : Int) := by rw [IntKind.wrap_i64]; omega
      have hmx : (if 0 < l.rcv - l.conf then ((l.rcv - l.conf : Nat) : Int) else 0) = ((l.rcv - l.conf : Nat) : Int) := by split <;> omega
      generalize l.rcv - l.conf = D at *
      have Hsub := Lib.hid hsub
      have HFr := Lib.hid hFr
      have Hal3 := Lib.hid hal3
      have Htp2 := Lib.hid htp2
      have Hhe := Lib.hid he
      have Hhx := Lib.hid hx
      have Hsz := Lib.hid hsz
      have Hsz2 := Lib.hid hsz2
      have Hl := Lib.hid hl
      have HK := Lib.hid hK
      have Hpos := Lib.hid hok.pos
      have Hm := Lib.hid hKm
      have Hcr := Lib.hid (show l.rcv ≤ K from ok2)
      clear hal htp hsz hb1 hrun hxv hal2 hsz2 hb2 htp2 hal3 hFr hE hv hok hrow hl hK ok1 ok2 ok3 hcap hsub hA1 e1 e2 he hx
      go_wp2_with fail
      clear hnx hen
      generalize hW : w2.alloc (.mapIter (some mb) lk (seen.push x.ent.born) lk) = W at *
      have HW := Lib.hid hW
      clear hW
      go_quiet (fail)
      go_wp2_with fail
      have hrd := (Hsub.out.fr ((Fr.refl None' W).drewN nq) (fun _ _ h => h)).rdI (ρ := fun _ => .imm) (fun _ _ => rfl)
      obtain ⟨A', n', c', he', hn', h0⟩ := hrd
      cases he'
      have hpn : ∀ y ∈ l.all.drop l.rcv, 0 ≤ y := fun y hy => by have := Hpos.out y (List.mem_of_mem_drop hy); omega
      have hpush := seenSum_push seen { key := wkey x.a x.b, val := .int .i64 (S.ln x.a x.b).fly, born := x.n } (mem_left Hhe.out).2 (flyEnt S L) (by rw [flyEnt_born, ← went_born]; exact Hnd.out) (mem_flyEnt S Hhx.out)
      have hvf : valOf (.int .i64 (S.ln x.a x.b).fly) = (l.all.drop l.rcv).sum := by rw [← Hl.out]; rfl
      simp only [] at hpush
      rw [hvf] at hpush
      have hnn : ∀ e ∈ flyEnt S L, 0 ≤ valOf e.val := by
        intro e he
        obtain ⟨y, hy, rfl⟩ := List.mem_map.1 he
        exact fly_nonneg HI.out.sh (Hh.out.entry hy)
      have hb1 := seenSum_nonneg (flyEnt S L) hnn seen
      have hb2 := seenSum_nonneg (flyEnt S L) hnn (seen.push x.n)
      rw [flyEnt_sum Hh.out] at hb1 hb2
      have hU2 : eFly S ≤ U := by
        have h1 := HI.out.sum
        have h2 := le_units HI.out.sh (i := 0) (by have := HI.out.sh.n1; simp [isB]; omega)
        omega
      have hUm := HU.out
      obtain ⟨s0, hs0⟩ : ∃ s0, s0 = seenSum (flyEnt S L) seen := ⟨_, rfl⟩
      rw [← hs0] at hpush hb1
      rw [hpush] at hb2
      have hbd : ∀ j, -9223372036854775808 ≤ s0 + ((l.all.drop l.rcv).take j).sum ∧ s0 + ((l.all.drop l.rcv).take j).sum ≤ 9223372036854775807 := fun j => by
        have := sum_take_le (l.all.drop l.rcv) hpn j
        omega
      have Hne := Lib.hid (show (K - l.rcv : Nat) = (l.all.drop l.rcv).length from hn')
      have hnm : (K - l.rcv : Nat) ≤ 1000000 := Nat.le_trans (Nat.sub_le _ _) Hm.out
      have Hbd := Lib.hid hbd
      have Hpush := Lib.hid hpush
      have Hs0 := Lib.hid hs0
      generalize K - l.rcv = n at *
      rw [← hs0]
      clear hrg hmx hsl w1' w2' hn' hpn hpush hvf hnn hb1 hb2 hU2 hUm hs0 hbd l0 l1 l2 c1
      go_loopw [3, 41] (fun s iv wr => ∃ j : Nat, j ≤ n ∧ iv = .int .i64 j ∧ s = .int .i64 (s0 + ((l.all.drop l.rcv).take j).sum) ∧ wr = W.drewN nq) (fun _ iv _ => n - (intOf iv).toNat)
      case atStart => exact ⟨0, Nat.zero_le _, rfl, by simp, rfl⟩
      case round =>
        obtain ⟨j, hj, rfl, rfl, rfl⟩ := hrel
        by_cases hlt : j < n
        · obtain ⟨gi, offi, rfl, _, _, hc⟩ := h0 (by omega)
          have hx : (l.all.drop l.rcv)[j]? = some ((l.all.drop l.rcv)[j]'(by rw [← Hne.out]; exact hlt)) := List.getElem?_eq_getElem _
          generalize (l.all.drop l.rcv)[j]'(by rw [← Hne.out]; exact hlt) = y at hx
          have hcy := hc j y hx
          have hst := sum_take_succ _ j y hx
          have hw := (Hbd.out (j + 1))
          rw [hst] at hw
          have hw' : wrap64 (s0 + ((l.all.drop l.rcv).take j).sum + y) = s0 + ((l.all.drop l.rcv).take j).sum + y := w64 (by omega) (by omega)
          have Hst := Lib.hid hst
          have hltI : (j : Int) < n := by omega
          have hj0 : ¬ (j : Int) < 0 := by omega
          have hwj : wrap64 ((j : Int) + 1) = (j : Int) + 1 := w64 (by omega) (by omega)
          generalize ((l.all.drop l.rcv).take j).sum = sj at *
          clear hst hw hc hx h0
          go_wp2_with fail
          go_roundw
          case rel => exact ⟨j + 1, hlt, by (clear hw'; go_num), by rw [hw', Hst.out, Int.add_assoc], trivial⟩
          case measure => (clear hw'; simp [intOf]; omega)
        · have hjn : j = n := by omega
          subst hjn
          have hfull : (l.all.drop l.rcv).take j = l.all.drop l.rcv := List.take_of_length_le (by rw [← Hne.out]; exact Nat.le_refl _)
          rw [hfull, ← Hpush.out]
          clear h0 hlt
          go_wp2_with fail
          go_roundw
          case rel =>
            refine ⟨w2.drewN nq, seen.push x.ent.born, Hal3.out, Htp2.out, by rw [← HW.out]; rfl, rfl⟩
          case measure =>
            have e1 : (W.drewN nq) = (w2.drewN nq).alloc (.mapIter (some mb) lk (seen.push x.ent.born) lk) := by rw [← HW.out]; rfl
            have hz : (w2.drewN nq).heap.size = w.heap.size := Hsz2.out
            rw [e1, ← hz, World.iterSeen_alloc, hz, ← Hsz.out, World.iterSeen_alloc]
            exact left_shrinks (went L) seen x.ent Hhe.out
end Go.Proofs.Ytdjaofkbgkifkaa

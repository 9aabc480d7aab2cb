/- Slices that a call owns, at any offset of their block, nil and empty alike: reading, keeping, appending, slicing, making. -/
import Derived.WalkKit
import Derived.WalkLawsBesides
import Derived.KernelRfl
set_option linter.unusedVariables false
set_option linter.unusedSimpArgs false
namespace Go.Proofs.Ytdjaofkbgkifkaa
open Go.RowKit

/-- Slice value v holds the cells xs (size cells each element), and nobody else looks at its spare part. -/
def Row (w : World) (size : Nat) (v : Value) (xs : List Value) : Prop :=
  ∃ A n cap, v = .slice A n cap ∧ xs.length = n * size ∧ n ≤ cap ∧ cap ≤ maxLen ∧
    (cap = 0 ∨ ∃ g off cur T, A = some ⟨g, off, none⟩ ∧ w.heap[g]? = some (.cells cur T (0, 0)) ∧ off + cap * size ≤ cur.size ∧ (cur.toList.drop off).take (n * size) = xs)

/-- The block of a slice; none if it has no places. -/
def rowBlk : Value → Option Nat
  | .slice (some a) _ cap => if cap = 0 then none else some a.block
  | _ => none

theorem Row.kept {w w' : World} {size : Nat} {v : Value} {xs : List Value} (h : Row w size v xs) (hk : ∀ k, rowBlk v = some k → w'.heap[k]? = w.heap[k]?) : Row w' size v xs := by
  obtain ⟨A, n, cap, rfl, h1, h2, h3, h4⟩ := h
  refine ⟨A, n, cap, rfl, h1, h2, h3, ?_⟩
  rcases h4 with h4 | ⟨g, off, cur, T, rfl, h5, h6, h7⟩
  · exact .inl h4
  · by_cases hc : cap = 0
    · exact .inl hc
    · exact .inr ⟨g, off, cur, T, rfl, by rw [hk g (by simp [rowBlk, hc])]; exact h5, h6, h7⟩
theorem Row.lt {w : World} {size : Nat} {v : Value} {xs : List Value} (h : Row w size v xs) {k : Nat} (hk : rowBlk v = some k) : k < w.heap.size := by
  obtain ⟨A, n, cap, rfl, h1, h2, h3, h4⟩ := h
  rcases h4 with h4 | ⟨g, off, cur, T, rfl, h5, h6, h7⟩
  · subst h4; cases A <;> simp [rowBlk] at hk
  · simp only [rowBlk] at hk
    split at hk
    · cases hk
    · cases hk; exact (Array.getElem?_eq_some_iff.1 h5).1
theorem Row.nil (w : World) (size : Nat) (A : Option Addr) : Row w size (.slice A 0 0) [] := ⟨A, 0, 0, rfl, by simp, Nat.le_refl _, by simp [maxLen], .inl rfl⟩
theorem rowBlk_zero (A : Option Addr) (n : Nat) : rowBlk (.slice A n 0) = none := by cases A <;> rfl
/-- The value's form; the length. -/
theorem Row.form {w : World} {size : Nat} {v : Value} {xs : List Value} (h : Row w size v xs) : ∃ A n cap, v = .slice A n cap ∧ xs.length = n * size := by
  obtain ⟨A, n, cap, rfl, h1, _⟩ := h
  exact ⟨A, n, cap, rfl, h1⟩
/-- A cell. -/
theorem Row.cell {w : World} {size n cap : Nat} {A : Option Addr} {xs : List Value} (h : Row w size (.slice A n cap) xs) (j : Nat) (u : Value) (hj : xs[j]? = some u) :
    ∃ a, A = some a ∧ w.cell? (a.add j) = some u := by
  obtain ⟨A', n', cap', he, h1, h2, h3, h4⟩ := h
  cases he
  have hlt : j < xs.length := (List.getElem?_eq_some_iff.1 hj).1
  rcases h4 with rfl | ⟨g, off, cur, T, rfl, h5, h6, h7⟩
  · have : n = 0 := by omega
    subst this
    simp at h1; subst h1; simp at hj
  · refine ⟨_, rfl, ?_⟩
    have ha : (⟨g, off, none⟩ : Addr).add j = ⟨g, off + j, none⟩ := by unfold Addr.add; split <;> simp_all
    rw [ha, cell_of_row w g _ cur T (0, 0) h5]
    rw [← h7] at hj
    rw [List.getElem?_take] at hj
    split at hj
    · simpa using hj
    · cases hj
/-- The cell at element i, place j. -/
theorem Row.at_ {w : World} {size n cap : Nat} {A : Option Addr} {xs : List Value} (h : Row w size (.slice A n cap) xs) {i : Nat} (hi : i < n) :
    ∃ g off, A = some ⟨g, off, none⟩ ∧ rowBlk (.slice A n cap) = some g ∧ ∀ j, j < size → w.cell? ⟨g, off + i * size + j, none⟩ = xs[i * size + j]? := by
  obtain ⟨A', n', cap', he, h1, h2, h3, h4⟩ := h
  cases he
  rcases h4 with rfl | ⟨g, off, cur, T, rfl, h5, h6, h7⟩
  · omega
  · refine ⟨g, off, rfl, ?_, ?_⟩
    · have : cap ≠ 0 := by omega
      simp [rowBlk, this]
    · intro j hj
      have hb : i * size + j < n * size := by
        have : (i + 1) * size ≤ n * size := Nat.mul_le_mul_right _ hi
        have e : (i + 1) * size = i * size + size := by rw [Nat.add_mul]; simp
        omega
      rw [cell_of_row w g _ cur T (0, 0) h5, ← h7, List.getElem?_take, if_pos hb]
      simp [Nat.add_assoc]
/-- The block is no string's. -/
theorem Row.free {w : World} {size n cap : Nat} {A : Option Addr} {xs : List Value} (h : Row w size (.slice A n cap) xs) {g : Nat} (hg : rowBlk (.slice A n cap) = some g) (o : Nat) : w.frozen? ⟨g, o, none⟩ = false := by
  obtain ⟨A', n', cap', he, h1, h2, h3, h4⟩ := h
  cases he
  rcases h4 with rfl | ⟨g', off, cur, T, rfl, h5, h6, h7⟩
  · rw [rowBlk_zero] at hg; cases hg
  · simp only [rowBlk] at hg
    split at hg
    · cases hg
    · cases hg; exact frozen_of_row w _ o cur T h5

/-- What a slice that is appended reads as. -/
def ReadsAs (w : World) (A : Option Addr) (news : List Value) : Prop := ∀ j u, news[j]? = some u → ∃ a, A = some a ∧ w.cell? (a.add j) = some u
theorem Row.reads {w : World} {size n cap : Nat} {A : Option Addr} {xs : List Value} (h : Row w size (.slice A n cap) xs) : ReadsAs w A xs := fun j u hj => h.cell j u hj
theorem ReadsAs.some {w : World} {A : Option Addr} {news : List Value} (h : ReadsAs w A news) (hne : news ≠ []) : ∃ a, A = some a ∧ ∀ j u, news[j]? = some u → w.cell? (a.add j) = some u := by
  cases news with
  | nil => exact absurd rfl hne
  | cons x r =>
    obtain ⟨a, rfl, _⟩ := h 0 x rfl
    exact ⟨a, rfl, fun j u hj => by obtain ⟨a', e, h'⟩ := h j u hj; cases e; exact h'⟩
theorem ReadsAs.first {P : Program} {w : World} {A : Option Addr} {news : List Value} (h : ReadsAs w A news) (size m c : Nat) (hl : news.length = m * size) : (Builtin.firstCells size m (.slice A m c)).run P w = .ok news.toArray w := by
  by_cases hne : news = []
  · subst hne
    simp at hl
    cases A with
    | none => simp [Builtin.firstCells]
    | some a =>
      simp only [Builtin.firstCells]
      rw [← hl]
      simp [loadCells, loadCellsFrom]
  · obtain ⟨a, rfl, h'⟩ := h.some hne
    exact run_firstCells_some w size m a m c news hl h'

theorem pw_zero_mul {k b : Nat} (h : k = 0) : k * b = 0 := by simp [h]

/-- append(v, x...). -/
theorem run_append_row {P : Program} (w : World) (t ty e : TypeId) (z : Value) (size bytes : Nat) (ht : P.underlying t = some (.slice e)) (hinfo : (P.info? e).map (fun i => (i.zero, i.size, i.bytes)) = some (some z, size, bytes))
    (hzs : z.cells.size = size) (v : Value) (xs : List Value) (hv : Row w size v xs) (A : Option Addr) (m c : Nat) (news : List Value) (hl : news.length = m * size) (hnews : ReadsAs w A news) (h1 : ∀ u ∈ news, u.oneCell' = true)
    (hsz : 0 < size) (hlen : xs.length + news.length ≤ 9007199254740992) (hbytes : ((xs.length + news.length) / size) * bytes ≤ 140737488355328) :
    ∃ v' w', (Builtin.append_ #[t, t] ty #[v, .slice A m c]).run P w = .ok v' w' ∧ Row w' size v' (xs ++ news) ∧ w.grownBy w' (rowBlk v) ∧ (rowBlk v' = rowBlk v ∨ rowBlk v' = some w.heap.size) := by
  obtain ⟨i, hi, hzz⟩ := Option.map_eq_some_iff.1 hinfo
  simp only [Prod.mk.injEq] at hzz
  obtain ⟨hz, hsize, hby⟩ := hzz
  subst hsize hby
  obtain ⟨B, n, cap, rfl, h2, h3, h4, h5⟩ := hv
  have hnm : (xs.length + news.length) / i.size = n + m := by rw [h2, hl, ← Nat.add_mul, Nat.mul_div_cancel _ hsz]
  rw [hnm] at hbytes
  have hnb : n + m ≤ 9007199254740992 := by
    have : (n + m) * 1 ≤ (n + m) * i.size := Nat.mul_le_mul_left _ hsz
    rw [Nat.add_mul n m i.size, ← h2, ← hl] at this
    omega
  have hlen' : (xs ++ news).length = (n + m) * i.size := by rw [List.length_append, h2, hl, Nat.add_mul]
  have hxr : ReadsAs w B xs := fun j u hj => Row.cell (size := i.size) (n := n) (cap := cap) ⟨B, n, cap, rfl, h2, h3, h4, h5⟩ j u hj
  by_cases hroom : n + m ≤ cap
  · by_cases hc : cap = 0
    · obtain rfl : n = 0 := by omega
      obtain rfl : m = 0 := by omega
      have e1 : xs = [] := List.eq_nil_of_length_eq_zero (by simpa using h2)
      have e2 : news = [] := List.eq_nil_of_length_eq_zero (by simpa using hl)
      subst e1 e2
      refine ⟨.slice B 0 cap, w, ?_, ⟨B, 0, cap, rfl, by simp, by omega, h4, .inl hc⟩, World.grownBy.refl _ _, .inl rfl⟩
      have hf := hnews.first (P := P) i.size 0 c hl
      cases B <;> simp [Builtin.append_, run_underlying ht, sizeOf, typeInfo, hi, Builtin.lenOf, hf, storeCells]
    · rcases h5 with h5 | ⟨g, off, cur, T, rfl, h6, h7, h8⟩
      · exact absurd h5 hc
      have hf := hnews.first (P := P) i.size m c hl
      have hfit : off + n * i.size + news.length ≤ cur.size := by
        rw [hl, Nat.add_assoc, ← Nat.add_mul]
        have : (n + m) * i.size ≤ cap * i.size := Nat.mul_le_mul_right _ hroom
        omega
      have hst := run_storeCells_at P g (off + n * i.size) T news 0 cur w h6 (by simpa using hfit) h1
      simp only [Nat.add_zero] at hst
      have ha : (⟨g, off, none⟩ : Addr).add (n * i.size) = ⟨g, off + n * i.size, none⟩ := by unfold Addr.add; split <;> simp_all
      refine ⟨.slice (some ⟨g, off, none⟩) (n + m) cap, w.setRow g (cur.toList.take (off + n * i.size) ++ news ++ cur.toList.drop (off + n * i.size + news.length)).toArray, ?_, ?_, ?_, .inl rfl⟩
      · simp [Builtin.append_, run_underlying ht, sizeOf, typeInfo, hi, Builtin.lenOf, hroom, hf, ha, hst]
      · refine ⟨_, _, _, rfl, hlen', hroom, h4, .inr ⟨g, off, _, T, rfl, setRow_heap w g cur _ T _ h6, ?_, ?_⟩⟩
        · simp only [List.size_toArray, List.length_append, List.length_take, List.length_drop, Array.length_toList]
          omega
        · have hle : off + n * i.size ≤ cur.toList.length := by simp; omega
          rw [List.append_assoc, List.drop_append_of_le_length (by simp; omega), List.drop_take, Nat.add_sub_cancel_left]
          rw [h8, ← List.append_assoc, ← hlen', List.take_left]
      · exact ⟨rfl, rfl, rfl, by simp, fun k _ hk => setRow_other w g k _ (fun e => hk (by simp [rowBlk, hc, e]))⟩
  · have hb : n + m ≤ maxLen := by simp only [maxLen]; omega
    have hge := grownCap_ge w (n + m) cap e
    have hcm : grownCap w (n + m) cap e ≤ maxLen := grownCap_le_maxLen w (n + m) cap e hb
    have hf := hnews.first (P := P) i.size m c hl
    have hfo := hxr.first (P := P) i.size n cap h2
    have hfd : (Builtin.firstCells i.size m (.slice A m c)).run P w.drew = .ok news.toArray w.drew := by
      have : ReadsAs w.drew A news := hnews
      exact this.first i.size m c hl
    have hfod : (Builtin.firstCells i.size n (.slice B n cap)).run P w.drew = .ok xs.toArray w.drew := by
      have : ReadsAs w.drew B xs := hxr
      exact this.first i.size n cap h2
    have h63' : ¬ (9223372036854775807 < ((n : Int) + (m : Int))) := by omega
    have h48' : ¬ (281474976710656 < Builtin.nextslicecap (n + m) cap * i.bytes) := by
      have := growslice_fits (need := n + m) (old := cap) (bytes := i.bytes) (by omega) hbytes
      omega
    refine ⟨.slice (some ⟨w.heap.size, 0, none⟩) (n + m) (grownCap w (n + m) cap e), w.drew.alloc (.cells (xs.toArray ++ news.toArray ++ Builtin.zeroCells z.cells (grownCap w (n + m) cap e - (n + m))) e), ?_, ?_, ⟨rfl, rfl, rfl, by simp, fun k hk _ => Below.heap_alloc w.drew _ k hk⟩, ?_⟩
    · simp [Builtin.append_, run_underlying ht, sizeOf, typeInfo, zeroValue, hi, hz, Builtin.lenOf, hroom, h63', h48', Question.forced, hfd, hfod, newRow, grownCap]
      congr 2
      apply Array.ext'
      simp [List.append_assoc]
    · refine ⟨_, _, _, rfl, hlen', hge, hcm, .inr ⟨w.heap.size, 0, _, e, rfl, heap_alloc_new w.drew _, ?_, ?_⟩⟩
      · simp only [Array.size_append, List.size_toArray, size_zeroCells, hzs, h2, hl, ← Nat.add_mul, Nat.zero_add]
        apply Nat.le_of_eq
        congr 1
        omega
      · simp only [Array.toList_append, List.append_assoc, List.drop_zero]
        rw [← List.append_assoc, ← hlen']
        exact List.take_left
    · by_cases hz0 : grownCap w (n + m) cap e = 0
      · omega
      · exact .inr (by simp [rowBlk, hz0])

/-- v[lo:hi]. -/
theorem Row.sub {w : World} {size n cap : Nat} {A : Option Addr} {xs : List Value} (h : Row w size (.slice A n cap) xs) (lo hi mx : Nat) (h1 : lo ≤ hi) (h2 : hi ≤ n) (h3 : hi ≤ mx) (h4 : mx ≤ cap) :
    Row w size (.slice (if mx = lo then A else A.map (·.add (lo * size))) (hi - lo) (mx - lo)) ((xs.drop (lo * size)).take ((hi - lo) * size)) := by
  obtain ⟨A', n', cap', he, h5, h6, h7, h8⟩ := h
  cases he
  have hl : ((xs.drop (lo * size)).take ((hi - lo) * size)).length = (hi - lo) * size := by
    rw [List.length_take, List.length_drop, h5, ← Nat.sub_mul]
    exact Nat.min_eq_left (Nat.mul_le_mul_right _ (by omega))
  refine ⟨_, _, _, rfl, hl, by omega, by omega, ?_⟩
  by_cases hm : mx = lo
  · exact .inl (by omega)
  · rcases h8 with h8 | ⟨g, off, cur, T, rfl, h9, h10, h11⟩
    · omega
    · refine .inr ⟨g, off + lo * size, cur, T, ?_, h9, ?_, ?_⟩
      · have ha : (⟨g, off, none⟩ : Addr).add (lo * size) = ⟨g, off + lo * size, none⟩ := by unfold Addr.add; split <;> simp_all
        simp [hm, ha]
      · have : lo * size + (mx - lo) * size ≤ cap * size := by rw [← Nat.add_mul]; exact Nat.mul_le_mul_right _ (by omega)
        omega
      · rw [← h11, List.drop_take, List.drop_drop, List.take_take]
        congr 1
        rw [← Nat.sub_mul]
        exact (Nat.min_eq_left (Nat.mul_le_mul_right _ (by omega))).symm
theorem rowBlk_sub {A : Option Addr} {n cap lo k : Nat} {size : Nat} {m : Nat} (h : rowBlk (.slice (if m = lo then A else A.map (·.add (lo * size))) n (m - lo)) = some k) (hm : m ≤ cap) (N : Nat) : rowBlk (.slice A N cap) = some k := by
  by_cases h0 : m = lo
  · subst h0; simp only [Nat.sub_self, rowBlk_zero] at h; cases h
  · simp only [h0, if_false] at h
    cases A with
    | none => simp [rowBlk] at h
    | some a =>
      simp only [Option.map_some, rowBlk] at h ⊢
      split at h
      · cases h
      · have hc : cap ≠ 0 := by omega
        have hb : (a.add (lo * size)).block = a.block := by unfold Addr.add; split <;> rfl
        rw [hb] at h
        simpa [hc] using h

/-- v[lo:], v[:hi]. -/
theorem run_slice_lo {P : Program} (w : World) (t e : TypeId) (size : Nat) (ht : P.underlying t = some (.slice e)) (hs : (P.info? e).map (·.size) = some size) (A : Option Addr) (n cap : Nat) (k : IntKind) (lo : Nat) (h1 : lo ≤ n) :
    (Instr.slice t (.slice A n cap) (some (.int k lo)) none none).run P w = .ok (.slice (if cap = lo then A else A.map (·.add (lo * size))) (n - lo) (cap - lo)) w := by
  obtain ⟨i, hi, hsz⟩ := Option.map_eq_some_iff.1 hs
  have h1' : (lo : Int) ≤ (n : Int) := by omega
  have h0' : (0 : Int) ≤ (lo : Int) := by omega
  simp [Instr.slice, run_underlying ht, Instr.sliceBounds, Instr.sliceBound, asIntOf, h1', h0', sizeOf, typeInfo, hi, hsz]
  intro h
  omega
theorem run_slice_hi {P : Program} (w : World) (t e : TypeId) (size : Nat) (ht : P.underlying t = some (.slice e)) (hs : (P.info? e).map (·.size) = some size) (A : Option Addr) (n cap : Nat) (k : IntKind) (hi : Nat) (h1 : hi ≤ cap) :
    (Instr.slice t (.slice A n cap) none (some (.int k hi)) none).run P w = .ok (.slice A hi cap) w := by
  obtain ⟨i, hi', hsz⟩ := Option.map_eq_some_iff.1 hs
  have h1' : (hi : Int) ≤ (cap : Int) := by omega
  have h0' : (0 : Int) ≤ (hi : Int) := by omega
  simp [Instr.slice, run_underlying ht, Instr.sliceBounds, Instr.sliceBound, asIntOf, h1', h0', sizeOf, typeInfo, hi']
  rw [if_pos h1]
  cases A with
  | none => simp
  | some a => simp [Addr.add]

/-- append(v, x...), in a walk. -/
theorem wp_append_row {P : Program} (w : World) {o : Oper} {a : Act} {K : Act → World → Prop} {Q : Exit → Act → World → Prop} (s x : Operand) (t e : TypeId)
    (ho : o.op = .call { callee := .builtin .append, args := #[s, x], argTypes := #[t, t] }) (z : Value) (size bytes : Nat) (ht : P.underlying t = some (.slice e))
    (hinfo : (P.info? e).map (fun i => (i.zero, i.size, i.bytes)) = some (some z, size, bytes)) (hzs : z.cells.size = size) (hsz : 0 < size)
    (v : Value) (xs : List Value) (hs : a.eval s = v) (hv : Row w size v xs) (A : Option Addr) (m c : Nat) (news : List Value) (hx : a.eval x = .slice A m c) (hl : news.length = m * size) (hnews : ReadsAs w A news) (h1 : ∀ u ∈ news, u.oneCell' = true)
    (hlen : xs.length + news.length ≤ 9007199254740992) (hbytes : ((xs.length + news.length) / size) * bytes ≤ 140737488355328)
    (h : ∀ v' w', Row w' size v' (xs ++ news) → w.grownBy w' (rowBlk v) → (rowBlk v' = rowBlk v ∨ rowBlk v' = some w.heap.size) → K (a.put o.dst v') w') : o.wp P a w K Q := by
  obtain ⟨v', w', hr, h2, h3, h4⟩ := run_append_row (P := P) w t o.type e z size bytes ht hinfo hzs v xs hv A m c news hl hnews h1 hsz hlen hbytes
  unfold Oper.wp execOp
  simp only [ho, resolve, invoke, builtin, Sem.run_bind, Sem.run_pure, Result.andThen_ok, List.map_toArray, List.map_cons, List.map_nil, hs, hx, hr]
  exact h v' w' h2 h3 h4
theorem wpList_append_row {P : Program} (w : World) {ops : Array Oper} {rest : List Oper} {o : Oper} {a : Act} {Q : Exit → Act → World → Prop} (hgd : o.guard = none) (s x : Operand) (t e : TypeId)
    (ho : o.op = .call { callee := .builtin .append, args := #[s, x], argTypes := #[t, t] }) (z : Value) (size bytes : Nat) (ht : P.underlying t = some (.slice e))
    (hinfo : (P.info? e).map (fun i => (i.zero, i.size, i.bytes)) = some (some z, size, bytes)) (hzs : z.cells.size = size) (hsz : 0 < size)
    (v : Value) (xs : List Value) (hs : a.eval s = v) (hv : Row w size v xs) (A : Option Addr) (m c : Nat) (news : List Value) (hx : a.eval x = .slice A m c) (hl : news.length = m * size) (hnews : ReadsAs w A news) (h1 : ∀ u ∈ news, u.oneCell' = true)
    (hlen : xs.length + news.length ≤ 9007199254740992) (hbytes : ((xs.length + news.length) / size) * bytes ≤ 140737488355328)
    (h : ∀ v' w', Row w' size v' (xs ++ news) → w.grownBy w' (rowBlk v) → (rowBlk v' = rowBlk v ∨ rowBlk v' = some w.heap.size) → wpList P ops Q rest (a.put o.dst v') w') : wpList P ops Q (o :: rest) a w :=
  wpList_plain hgd fun _ hK => wp_append_row w s x t e ho z size bytes ht hinfo hzs hsz v xs hs hv A m c news hx hl hnews h1 hlen hbytes fun v' w' h2 h3 h4 => hK _ _ (h v' w' h2 h3 h4)

theorem step_append_row {P : Program} (w : World) {ops : Array Oper} {o : Oper} {a : Act} {K : Act → World → Prop} {Q : Exit → Act → World → Prop} {E : Prop} (hgd : o.guard = none) (s x : Operand) (t e : TypeId)
    (ho : o.op = .call { callee := .builtin .append, args := #[s, x], argTypes := #[t, t] }) (z : Value) (size bytes : Nat) (ht : P.underlying t = some (.slice e))
    (hinfo : (P.info? e).map (fun i => (i.zero, i.size, i.bytes)) = some (some z, size, bytes)) (hzs : z.cells.size = size) (hsz : 0 < size)
    (v : Value) (xs : List Value) (hs : a.eval s = v) (hv : Row w size v xs) (A : Option Addr) (m c : Nat) (news : List Value) (hx : a.eval x = .slice A m c) (hl : news.length = m * size) (hnews : ReadsAs w A news) (h1 : ∀ u ∈ news, u.oneCell' = true)
    (hlen : xs.length + news.length ≤ 9007199254740992) (hbytes : ((xs.length + news.length) / size) * bytes ≤ 140737488355328)
    (h : ∀ v' w', Row w' size v' (xs ++ news) → w.grownBy w' (rowBlk v) → (rowBlk v' = rowBlk v ∨ rowBlk v' = some w.heap.size) → K (a.put o.dst v') w') :
    if Region.wanted o (yielded ops a.tmps) = true then Oper.wp P o a w K Q else E := by
  have hw : Region.wanted o (yielded ops a.tmps) = true := by simp [Region.wanted, hgd]
  rw [if_pos hw]
  exact wp_append_row w s x t e ho z size bytes ht hinfo hzs hsz v xs hs hv A m c news hx hl hnews h1 hlen hbytes h

/-- Outside F the world is as it was; the streams too. -/
structure Fr (F : Nat → Prop) (w w' : World) : Prop where
  os : w'.os = w.os
  tape : w'.tape = w.tape
  output : w'.output = w.output
  size : w.heap.size ≤ w'.heap.size
  block : ∀ k, k < w.heap.size → ¬ F k → w'.heap[k]? = w.heap[k]?
/-- F with the new blocks. -/
def Ext (F : Nat → Prop) (w w' : World) (k : Nat) : Prop := F k ∨ (w.heap.size ≤ k ∧ k < w'.heap.size)
def None' (k : Nat) : Prop := False

theorem Fr.refl (F : Nat → Prop) (w : World) : Fr F w w := ⟨rfl, rfl, rfl, Nat.le_refl _, fun _ _ _ => rfl⟩
theorem Fr.mono {F G : Nat → Prop} {w w' : World} (h : Fr F w w') (hFG : ∀ k, k < w.heap.size → F k → G k) : Fr G w w' := ⟨h.os, h.tape, h.output, h.size, fun k hk hn => h.block k hk (fun hf => hn (hFG k hk hf))⟩
theorem Fr.trans {F G : Nat → Prop} {a b c : World} (h : Fr F a b) (k : Fr G b c) (hG : ∀ i, i < a.heap.size → G i → F i) : Fr F a c :=
  ⟨k.os.trans h.os, k.tape.trans h.tape, k.output.trans h.output, Nat.le_trans h.size k.size, fun i hi hn => (k.block i (Nat.lt_of_lt_of_le hi h.size) (fun hg => hn (hG i hi hg))).trans (h.block i hi hn)⟩
theorem Fr.trans0 {F : Nat → Prop} {a b c : World} (h : Fr F a b) (k : Fr None' b c) : Fr F a c := h.trans k (fun _ _ h => h.elim)
theorem Fr.of_grown {F : Nat → Prop} {w w' : World} {row : Option Nat} (h : w.grownBy w' row) (hr : ∀ k, row = some k → F k) : Fr F w w' :=
  ⟨h.os, h.tape, h.output, h.size, fun k hk hn => h.block k hk (fun e => hn (hr k e.symm))⟩
theorem Fr.alloc {F : Nat → Prop} {a w : World} (h : Fr F a w) (o : Obj) : Fr F a (w.alloc o) :=
  h.trans0 ⟨rfl, rfl, rfl, by simp, fun k hk _ => Below.heap_alloc _ _ _ hk⟩
theorem Fr.drew {F : Nat → Prop} {a w : World} (h : Fr F a w) : Fr F a w.drew := ⟨h.os, h.tape, h.output, h.size, h.block⟩
theorem Fr.drewN {F : Nat → Prop} {a w : World} (h : Fr F a w) (n : Nat) : Fr F a (w.drewN n) := ⟨h.os, h.tape, h.output, h.size, h.block⟩
theorem Fr.setObj {F : Nat → Prop} {a w : World} (h : Fr F a w) {r : Nat} (hr : F r ∨ a.heap.size ≤ r) (o : Obj) : Fr F a { w with heap := w.heap.setIfInBounds r o } :=
  h.trans (G := fun k => k = r) ⟨rfl, rfl, rfl, by simp, fun k hk hn => by simp [Array.getElem?_setIfInBounds_ne (Ne.symm hn)]⟩ (fun i hi e => by subst e; rcases hr with hr | hr; exact hr; omega)
theorem Fr.setCell {F : Nat → Prop} {a w : World} (h : Fr F a w) {p : Addr} (hp : F p.block ∨ a.heap.size ≤ p.block) (u : Value) : Fr F a (w.setCell p u) :=
  h.trans (G := fun k => k = p.block) ⟨rfl, rfl, rfl, by simp [World.setCell], fun k hk hn => Below.heap_setCell _ _ _ _ hn⟩ (fun i hi e => by subst e; rcases hp with hp | hp; exact hp; omega)
theorem Fr.below {F : Nat → Prop} {w w' : World} {B : Nat} (h : Fr F w w') (hF : ∀ k, F k → B ≤ k) (hB : B ≤ w.heap.size) : Below B w w' :=
  ⟨h.os, h.tape, h.output, h.size, fun k hk => h.block k (by omega) (fun hf => by have := hF k hf; omega)⟩
theorem Fr.of_below {F : Nat → Prop} {w w' : World} (h : Below w.heap.size w w') : Fr F w w' := ⟨h.os, h.tape, h.output, h.size, fun k hk _ => h.block k hk⟩
theorem Fr.grown {F : Nat → Prop} {a w w' : World} {row : Option Nat} (h : Fr F a w) (hg : w.grownBy w' row) (hr : ∀ k, row = some k → F k ∨ a.heap.size ≤ k) : Fr F a w' :=
  h.trans (G := fun k => row = some k) (Fr.of_grown hg (fun k hk => hk)) (fun i hi e => by rcases hr i e with hr | hr; exact hr; omega)
/-- A cell that is there stays. -/
theorem Fr.cell {F : Nat → Prop} {w w' : World} (h : Fr F w w') {p : Addr} {v : Value} (hc : w.cell? p = some v) (hn : ¬ F p.block) : w'.cell? p = some v := by
  have hlt := World.block_lt_of_cell? w p hc
  rw [World.cell?_of_block (h.block p.block hlt hn)]; exact hc
theorem Fr.heap {F : Nat → Prop} {w w' : World} (h : Fr F w w') {k : Nat} {o : Obj} (hc : w.heap[k]? = some o) (hn : ¬ F k) : w'.heap[k]? = some o := by
  have hlt := (Array.getElem?_eq_some_iff.1 hc).1
  rw [h.block k hlt hn]; exact hc
theorem Row.fr {F : Nat → Prop} {w w' : World} {size : Nat} {v : Value} {xs : List Value} (h : Row w size v xs) (hf : Fr F w w') (hn : ∀ k, rowBlk v = some k → ¬ F k) : Row w' size v xs :=
  h.kept fun k hk => hf.block k (h.lt hk) (hn k hk)

/-- Texts in a slice. -/
def strs (l : List ByteArray) : List Value := l.map .string
theorem strs_length (l : List ByteArray) : (strs l).length = l.length := by simp [strs]
theorem strs_one (l : List ByteArray) : ∀ u ∈ strs l, u.oneCell' = true := by
  intro u hu
  simp only [strs, List.mem_map] at hu
  obtain ⟨s, _, rfl⟩ := hu
  rfl
end Go.Proofs.Ytdjaofkbgkifkaa

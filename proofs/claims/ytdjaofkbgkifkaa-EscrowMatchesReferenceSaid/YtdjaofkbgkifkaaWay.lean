/- Maps whose keys are arrays of two ints: what a lookup, an update, an entry and its store do to the map's block. -/
import Derived.WalkKit
import Derived.WalkLawsBesides
import Derived.KernelRfl
set_option linter.unusedVariables false
set_option linter.unusedSimpArgs false
namespace Go.Proofs.Ytdjaofkbgkifkaa
open Go.RowKit

/-- A key. -/
def wkey (a b : Int) : Value := .agg #[.int .i64 a, .int .i64 b]
/-- An entry. -/
structure WE where
  a : Int
  b : Int
  v : Value
  n : Nat
def WE.ent (e : WE) : MapEntry := { key := wkey e.a e.b, val := e.v, born := e.n }
def went (L : List WE) : Array MapEntry := (L.map WE.ent).toArray
def WE.is (a b : Int) (e : WE) : Bool := a == e.a && b == e.b
/-- Where a key stands, and its value. -/
def wfind (a b : Int) : List WE → Nat → Option (Nat × Value)
  | [], _ => none
  | e :: r, i => if e.is a b then some (i, e.v) else wfind a b r (i + 1)
/-- The value at a key. -/
def wval (a b : Int) (z : Value) : List WE → Value
  | [] => z
  | e :: r => if e.is a b then e.v else wval a b z r
/-- The list with a value at a key: in place, or at the end. -/
def wput (a b : Int) (v : Value) (n : Nat) : List WE → List WE
  | [] => [⟨a, b, v, n⟩]
  | e :: r => if e.is a b then { e with v := v } :: r else e :: wput a b v n r
def whas (a b : Int) (L : List WE) : Bool := L.any (WE.is a b)

theorem wval_find (a b : Int) (z : Value) : ∀ (L : List WE) (i : Nat), (match wfind a b L i with | some (_, v) => v | none => z) = wval a b z L
  | [], _ => rfl
  | e :: r, i => by
    simp only [wfind, wval]
    by_cases h : e.is a b = true
    · simp [h]
    · simp only [h]; exact wval_find a b z r (i + 1)

theorem wfind_none (a b : Int) : ∀ (L : List WE) (i : Nat), wfind a b L i = none ↔ whas a b L = false
  | [], _ => by simp [wfind, whas]
  | e :: r, i => by
    simp only [wfind, whas, List.any_cons]
    by_cases h : e.is a b = true
    · simp [h]
    · simp only [h]; simpa [whas] using wfind_none a b r (i + 1)

/-- What the key's type is. -/
structure WayKey (P : Program) (K E : TypeId) : Prop where
  arr : P.underlying K = some (.array 2 E)
  int : P.underlying E = some (.int .i64)
  size : (P.info? E).map (·.size) = some 1

section
variable {P : Program} {K E : TypeId}

theorem WayKey.run_sizeOf (h : WayKey P K E) (w : World) : (sizeOf E).run P w = .ok 1 w := by
  obtain ⟨i, hi, hs⟩ := Option.map_eq_some_iff.1 h.size
  simp [sizeOf, typeInfo, hi, hs]
theorem WayKey.run_isAgg (h : WayKey P K E) (w : World) : (isAgg E).run P w = .ok false w := by
  simp [isAgg, run_underlying h.int]
theorem WayKey.run_part (h : WayKey P K E) (w : World) (cs : Array Value) (i : Nat) (v : Value) (hv : cs[i]? = some v) : (part E cs i).run P w = .ok v w := by
  simp [part, h.run_isAgg, hv]

theorem WayKey.run_equal (h : WayKey P K E) (w : World) (d : Nat) (a b c e : Int) : (Op.equalIn (d + 2) K (wkey a b) (wkey c e)).run P w = .ok (a == c && b == e) w := by
  have h0 : ∀ d : Nat, ∀ w : World, ∀ x y : Int, (Op.equalIn (d + 1) E (.int .i64 x) (.int .i64 y)).run P w = .ok (x == y) w := by
    intro d w x y
    simp [Op.equalIn, run_underlying h.int]
  have p0 : ∀ w : World, ∀ x y : Int, (part E #[.int .i64 x, .int .i64 y] 0).run P w = .ok (.int .i64 x) w := fun w x y => h.run_part w _ _ _ rfl
  have p1 : ∀ w : World, ∀ x y : Int, (part E #[.int .i64 x, .int .i64 y] 1).run P w = .ok (.int .i64 y) w := fun w x y => h.run_part w _ _ _ rfl
  have hr : List.range' 0 2 = [0, 1] := rfl
  simp only [wkey]
  unfold Op.equalIn
  simp only [Sem.run_bind, run_underlying h.arr, Result.andThen, h.run_sizeOf, Nat.mul_one]
  simp [hr, p0, p1, h0, Result.andThen]
  by_cases h1 : a = c <;> by_cases h2 : b = e <;> simp [h1, h2, p0, p1, h0, Result.andThen]

theorem WayKey.run_check (h : WayKey P K E) (w : World) (m : Bool) (d : Nat) (a b : Int) : (Instr.checkKey m (d + 2) K (wkey a b)).run P w = .ok () w := by
  have h0 : ∀ d : Nat, ∀ w : World, ∀ x : Int, (Instr.checkKey m (d + 1) E (.int .i64 x)).run P w = .ok () w := by
    intro d w x
    simp [Instr.checkKey, run_underlying h.int]
  have p0 : ∀ w : World, ∀ x y : Int, (part E #[.int .i64 x, .int .i64 y] 0).run P w = .ok (.int .i64 x) w := fun w x y => h.run_part w _ _ _ rfl
  have p1 : ∀ w : World, ∀ x y : Int, (part E #[.int .i64 x, .int .i64 y] 1).run P w = .ok (.int .i64 y) w := fun w x y => h.run_part w _ _ _ rfl
  have hr : List.range' 0 2 = [0, 1] := rfl
  simp only [wkey]
  unfold Instr.checkKey
  simp only [Sem.run_bind, run_underlying h.arr, Result.andThen]
  simp [hr, h.run_sizeOf, p0, p1, h0, Result.andThen]

theorem WayKey.run_asking (h : WayKey P K E) (a b : Int) : ∀ (L : List WE) (i : Nat) (w : World), (Instr.findAsking K (wkey a b) (L.map WE.ent) i).run P w = .ok (wfind a b L i) w
  | [], _, _ => by simp [Instr.findAsking, wfind]
  | e :: r, i, w => by
    have he := h.run_equal w 9998 a b e.a e.b
    simp only [List.map_cons, Instr.findAsking, wfind, Op.equal, Op.maxDepth, WE.ent, Sem.run_bind, he, Result.andThen, WE.is]
    by_cases hh : (a == e.a && b == e.b) = true
    · simp [hh]
    · simp only [hh]; exact h.run_asking a b r (i + 1) w

theorem WayKey.run_find (h : WayKey P K E) (a b : Int) (L : List WE) (w : World) : (Instr.findKey K (wkey a b) (L.map WE.ent)).run P w = .ok (wfind a b L 0) w := by
  unfold Instr.findKey
  simp only [Sem.run_bind, run_underlying h.arr, Result.andThen]
  cases L with
  | nil => simp [Instr.findNow, wfind]
  | cons e r =>
    have : Instr.findNow (.array 2 E) (wkey a b) ((e :: r).map WE.ent) 0 = none := by
      simp [Instr.findNow, Instr.sameNow, WE.ent, wkey]
    simp only [this]
    exact h.run_asking a b (e :: r) 0 w

/-- A map's type. -/
theorem WayKey.run_lookup (h : WayKey P K E) (T V : TypeId) (hT : P.underlying T = some (.map K V)) (z : Value) (hz : ∀ w, (zeroValue V).run P w = .ok z w) (m : Nat) (L : List WE) (clk : Nat) (a b : Int) (w : World)
    (hm : w.heap[m]? = some (.map (went L) clk)) : (Instr.lookup T (.map (some m)) (wkey a b) false).run P w = .ok (wval a b z L) w := by
  have hg : (getObj m).run P w = .ok (.map (went L) clk) w := by simp [getObj, Sem.run, hm]
  have hf := h.run_find a b L w
  have hv := wval_find a b z L 0
  unfold Instr.lookup
  simp only [Sem.run_bind, run_underlying hT, Result.andThen, hg, Sem.run_pure, h.run_check, went, List.toList_toArray, hf]
  cases hh : wfind a b L 0 with
  | none => rw [hh] at hv; simp [hz, Result.andThen, ← hv]
  | some p => rw [hh] at hv; simp [Result.andThen, ← hv]

/-- A nil map. -/
theorem WayKey.run_lookup_nil (h : WayKey P K E) (T V : TypeId) (hT : P.underlying T = some (.map K V)) (z : Value) (hz : ∀ w, (zeroValue V).run P w = .ok z w) (a b : Int) (w : World) :
    (Instr.lookup T (.map none) (wkey a b) false).run P w = .ok z w := by
  have hf := h.run_find a b [] w
  unfold Instr.lookup
  simp only [Sem.run_bind, run_underlying hT, Result.andThen, Sem.run_pure, h.run_check]
  simp only [List.map_nil] at hf
  simp [hf, wfind, hz, Result.andThen]
end

/-- The world with another object in a block. -/
def World.setObj (w : World) (r : Nat) (o : Obj) : World := { w with heap := w.heap.setIfInBounds r o }
theorem World.setObj_same {w : World} {r : Nat} {o o' : Obj} (h : w.heap[r]? = some o') : (World.setObj w r o).heap[r]? = some o := by
  have := (Array.getElem?_eq_some_iff.1 h).1
  simp [World.setObj, this]
theorem World.setObj_other {w : World} {r k : Nat} {o : Obj} (h : k ≠ r) : (World.setObj w r o).heap[k]? = w.heap[k]? := by
  simp [World.setObj, Array.getElem?_setIfInBounds_ne (Ne.symm h)]
theorem World.setObj_cell {w : World} {r : Nat} {o : Obj} {a : Addr} (h : a.block ≠ r) : (World.setObj w r o).cell? a = w.cell? a := World.cell?_of_block (World.setObj_other h)
theorem World.setObj_size (w : World) (r : Nat) (o : Obj) : (World.setObj w r o).heap.size = w.heap.size := by simp [World.setObj]

theorem wfind_some {a b : Int} : ∀ {L : List WE} {i j : Nat} {v : Value}, wfind a b L i = some (j, v) → ∃ e, i ≤ j ∧ L[j - i]? = some e ∧ e.is a b = true ∧ e.v = v ∧ (∀ k x, k < j - i → L[k]? = some x → x.is a b = false)
  | [], _, _, _, h => by simp [wfind] at h
  | e :: r, i, j, v, h => by
    simp only [wfind] at h
    by_cases hh : e.is a b = true
    · simp only [hh, if_true, Option.some.injEq, Prod.mk.injEq] at h
      obtain ⟨rfl, rfl⟩ := h
      exact ⟨e, Nat.le_refl _, by simp, hh, rfl, fun k x hk => by omega⟩
    · simp only [hh] at h
      obtain ⟨e', h1, h2, h3, h4, h5⟩ := wfind_some h
      refine ⟨e', by omega, ?_, h3, h4, ?_⟩
      · obtain ⟨q, hq⟩ : ∃ q, j - i = q + 1 := ⟨j - i - 1, by omega⟩
        rw [hq, List.getElem?_cons_succ, show q = j - (i + 1) from by omega]
        exact h2
      · intro k x hk hx
        cases k with
        | zero => simp at hx; subst hx; simpa using hh
        | succ k => exact h5 k x (by omega) (by simpa using hx)

theorem wput_mod (a b : Int) (v : Value) (n : Nat) : ∀ (L : List WE) (i : Nat) (u : Value), wfind a b L 0 = some (i, u) → wput a b v n L = L.modify i (fun e => { e with v := v }) := by
  have gen : ∀ (L : List WE) (k i : Nat) (u : Value), wfind a b L k = some (k + i, u) → wput a b v n L = L.modify i (fun e => { e with v := v }) := by
    intro L
    induction L with
    | nil => intro k i u h; simp [wfind] at h
    | cons e r ih =>
      intro k i u h
      simp only [wfind] at h
      by_cases hh : e.is a b = true
      · simp only [hh, if_true, Option.some.injEq, Prod.mk.injEq] at h
        obtain rfl : i = 0 := by omega
        simp [wput, hh]
      · simp only [hh, Bool.false_eq_true, if_false] at h
        obtain ⟨_, h1, _⟩ := wfind_some h
        obtain ⟨i, rfl⟩ : ∃ q, i = q + 1 := ⟨i - 1, by omega⟩
        have := ih (k + 1) i u (by rw [h]; simp; omega)
        simp [wput, hh, this]
  intro L i u h
  exact gen L 0 i u (by simpa using h)
theorem wput_new (a b : Int) (v : Value) (n : Nat) : ∀ (L : List WE), whas a b L = false → wput a b v n L = L ++ [⟨a, b, v, n⟩]
  | [], _ => rfl
  | e :: r, h => by
    simp only [whas, List.any_cons, Bool.or_eq_false_iff] at h
    simp [wput, h.1, wput_new a b v n r h.2]

theorem went_modify (L : List WE) (i : Nat) (f : WE → WE) (g : MapEntry → MapEntry) (h : ∀ e, L[i]? = some e → (f e).ent = g e.ent) : went (L.modify i f) = (went L).modify i g := by
  unfold went
  apply Array.ext'
  simp only [Array.toList_modify, List.toList_toArray]
  apply List.ext_getElem?
  intro j
  simp only [List.getElem?_map, List.getElem?_modify]
  by_cases hij : i = j
  · subst hij
    cases hx : L[i]? with
    | none => simp
    | some e => simp [h e hx]
  · simp [hij]

theorem WE.key_of_is {a b : Int} {e : WE} (h : e.is a b = true) : e.ent.key = wkey a b := by
  simp [WE.is] at h
  simp [WE.ent, h.1, h.2]
theorem sameBits_way (d : Nat) (a b : Int) : Instr.sameBits (d + 2) (wkey a b) (wkey a b) = true := by
  simp [Instr.sameBits, wkey]

section
variable {P : Program} {K E : TypeId}
/-- m[k] = v. -/
theorem WayKey.run_update (h : WayKey P K E) (T V : TypeId) (hT : P.underlying T = some (.map K V)) (m : Nat) (L : List WE) (clk : Nat) (a b : Int) (v : Value) (w : World)
    (hm : w.heap[m]? = some (.map (went L) clk)) : (Instr.mapUpdate T (.map (some m)) (wkey a b) v).run P w = .ok () (World.setObj w m (.map (went (wput a b v clk L)) (if whas a b L then clk else clk + 1))) := by
  have hg : (getObj m).run P w = .ok (.map (went L) clk) w := by simp [getObj, Sem.run, hm]
  have hs : ∀ o, (setObj m o).run P w = .ok () (World.setObj w m o) := by intro o; simp [Go.setObj, Sem.run, hm, World.setObj]
  have hf := h.run_find a b L w
  unfold Instr.mapUpdate
  simp only [Sem.run_bind, run_underlying hT, Result.andThen, hg, h.run_check]
  simp only [went, List.toList_toArray] at *
  simp only [hf]
  cases hh : wfind a b L 0 with
  | none =>
    have hw := (wfind_none a b L 0).1 hh
    simp only [hs, hw, wput_new a b v clk L hw, Bool.false_eq_true, if_false]
    simp [WE.ent]
  | some p =>
    obtain ⟨i, u⟩ := p
    have hw : whas a b L = true := by
      cases hx : whas a b L with
      | true => rfl
      | false => rw [(wfind_none a b L 0).2 hx] at hh; cases hh
    obtain ⟨e, _, h2, h3, h4, _⟩ := wfind_some hh
    simp only [Nat.sub_zero] at h2
    have hk : (((L.map WE.ent).toArray[i]?).map (·.key)).getD (wkey a b) = wkey a b := by
      simp [h2, WE.key_of_is h3]
    have hst : (Instr.keyThatStays (wkey a b) (wkey a b)).run P w = .ok (wkey a b) w := by
      simp [Instr.keyThatStays, sameBits_way 9998 a b]
    simp only [hk, Sem.run_bind, hst, Result.andThen, hs, hw, if_true]
    congr 3
    rw [wput_mod a b v clk L i u hh]
    have := went_modify L i (fun e => { e with v := v }) (fun e => { e with key := wkey a b, val := v }) (fun e' he' => by
      rw [h2] at he'; cases he'
      have hke := WE.key_of_is h3
      simp only [WE.ent] at hke ⊢
      rw [← hke])
    simpa [went] using this.symm

/-- The born of a key's entry; the clock, if there is none. -/
def wstamp (a b : Int) (clk : Nat) : List WE → Nat
  | [] => clk
  | e :: r => if e.is a b then e.n else wstamp a b clk r
/-- The list with an entry for the key. -/
def wopen (a b : Int) (z : Value) (clk : Nat) (L : List WE) : List WE := if whas a b L then L else L ++ [⟨a, b, z, clk⟩]
/-- All borns are below the clock, and different. -/
def WOK (L : List WE) (clk : Nat) : Prop := (∀ e ∈ L, e.n < clk) ∧ (L.map (·.n)).Nodup

theorem wstamp_at {a b : Int} {clk : Nat} : ∀ {L : List WE} {k i : Nat} {u : Value}, wfind a b L k = some (k + i, u) → ∃ e, L[i]? = some e ∧ e.n = wstamp a b clk L
  | [], _, _, _, h => by simp [wfind] at h
  | e :: r, k, i, u, h => by
    simp only [wfind] at h
    by_cases hh : e.is a b = true
    · simp only [hh, if_true, Option.some.injEq, Prod.mk.injEq] at h
      obtain rfl : i = 0 := by omega
      exact ⟨e, rfl, by simp [wstamp, hh]⟩
    · simp only [hh, Bool.false_eq_true, if_false] at h
      obtain ⟨_, h1, _⟩ := wfind_some h
      obtain ⟨i, rfl⟩ : ∃ q, i = q + 1 := ⟨i - 1, by omega⟩
      obtain ⟨e', h2, h3⟩ := wstamp_at (clk := clk) (k := k + 1) (i := i) (u := u) (by rw [h]; simp; omega)
      exact ⟨e', by simpa using h2, by simp [wstamp, hh, h3]⟩
theorem wstamp_none {a b : Int} {clk : Nat} : ∀ {L : List WE}, whas a b L = false → wstamp a b clk L = clk
  | [], _ => rfl
  | e :: r, h => by
    simp only [whas, List.any_cons, Bool.or_eq_false_iff] at h
    simp [wstamp, h.1, wstamp_none (L := r) (by simpa [whas] using h.2)]
theorem wval_none {a b : Int} {z : Value} {L : List WE} (h : whas a b L = false) : wval a b z L = z := by
  rw [← wval_find a b z L 0, (wfind_none a b L 0).2 h]
theorem whas_of_find {a b : Int} {L : List WE} {p : Nat × Value} (h : wfind a b L 0 = some p) : whas a b L = true := by
  cases hx : whas a b L with
  | true => rfl
  | false => rw [(wfind_none a b L 0).2 hx] at h; cases h

/-- x[k] = append(x[k], ..): the entry. -/
theorem WayKey.run_entry (h : WayKey P K E) (T V : TypeId) (hT : P.underlying T = some (.map K V)) (z : Value) (hz : ∀ w, (zeroValue V).run P w = .ok z w) (m : Nat) (L : List WE) (clk : Nat) (a b : Int) (w : World)
    (hm : w.heap[m]? = some (.map (went L) clk)) : (Instr.mapEntry T (.map (some m)) (wkey a b)).run P w =
      .ok (.tuple #[wval a b z L, .int .i64 (wstamp a b clk L)]) (World.setObj w m (.map (went (wopen a b z clk L)) (if whas a b L then clk else clk + 1))) := by
  have hg : (getObj m).run P w = .ok (.map (went L) clk) w := by simp [getObj, Sem.run, hm]
  have hs : ∀ o, (setObj m o).run P w = .ok () (World.setObj w m o) := by intro o; simp [Go.setObj, Sem.run, hm, World.setObj]
  have hf := h.run_find a b L w
  unfold Instr.mapEntry
  simp only [Sem.run_bind, run_underlying hT, Result.andThen, hg, h.run_check]
  simp only [went, List.toList_toArray] at *
  simp only [hf]
  cases hh : wfind a b L 0 with
  | none =>
    have hw := (wfind_none a b L 0).1 hh
    simp only [hz, hs, hw, Sem.run_bind, Result.andThen, wopen, Bool.false_eq_true, if_false, wval_none hw, wstamp_none hw, goInt, Sem.run_pure]
    simp [WE.ent]
  | some p =>
    obtain ⟨i, u⟩ := p
    have hw := whas_of_find hh
    obtain ⟨e, _, h2, h3, h4, _⟩ := wfind_some hh
    simp only [Nat.sub_zero] at h2
    obtain ⟨e', h5, h6⟩ := wstamp_at (k := 0) (clk := clk) (by simpa using hh)
    rw [h2] at h5; cases h5
    have hv := wval_find a b z L 0
    rw [hh] at hv
    have hk : (((L.map WE.ent).toArray[i]?).map (·.key)).getD (wkey a b) = wkey a b := by
      simp [h2, WE.key_of_is h3]
    have hb : (((L.map WE.ent).toArray[i]?).map (·.born)).getD 0 = wstamp a b clk L := by
      simp [h2, WE.ent, h6]
    have hst : (Instr.keyThatStays (wkey a b) (wkey a b)).run P w = .ok (wkey a b) w := by
      simp [Instr.keyThatStays, sameBits_way 9998 a b]
    have hmod : (L.map WE.ent).toArray.modify i (fun e => { e with key := wkey a b }) = (L.map WE.ent).toArray := by
      have := went_modify L i (fun e => e) (fun e => { e with key := wkey a b }) (fun e' he' => by
        rw [h2] at he'; cases he'
        have hke := WE.key_of_is h3
        simp only [WE.ent] at hke ⊢
        rw [← hke])
      have hid : L.modify i (fun e => e) = L := by
        apply List.ext_getElem?; intro j; simp [List.getElem?_modify]
      rw [hid] at this
      simpa [went] using this.symm
    simp only [hk, Sem.run_bind, hst, Result.andThen, hs, hw, if_true, wopen, hmod, hb, goInt, Sem.run_pure]
    have hb' : (Option.map ((fun x => (x.born : Int)) ∘ WE.ent) L[i]?).getD 0 = (wstamp a b clk L : Int) := by simp [h2, WE.ent, h6]
    simp [← hv, hb']

theorem WayKey.run_entryStore (T : TypeId) (z : Value) (m : Nat) (L : List WE) (clk c2 : Nat) (a b : Int) (v : Value) (w : World) (hok : WOK L clk)
    (hm : w.heap[m]? = some (.map (went (wopen a b z clk L)) c2)) : (Instr.entryStore T (.map (some m)) (.int .i64 (wstamp a b clk L)) v).run P w = .ok () (World.setObj w m (.map (went (wput a b v clk L)) c2)) := by
  have hg : (getObj m).run P w = .ok (.map (went (wopen a b z clk L)) c2) w := by simp [getObj, Sem.run, hm]
  have hs : ∀ o, (setObj m o).run P w = .ok () (World.setObj w m o) := by intro o; simp [Go.setObj, Sem.run, hm, World.setObj]
  -- where the entry stands
  have hidx : ∃ i e, (wopen a b z clk L)[i]? = some e ∧ e.n = wstamp a b clk L ∧ (∀ j x, j < i → (wopen a b z clk L)[j]? = some x → x.n ≠ wstamp a b clk L) ∧ wput a b v clk L = (wopen a b z clk L).modify i (fun e => { e with v := v }) := by
    cases hh : wfind a b L 0 with
    | none =>
      have hw := (wfind_none a b L 0).1 hh
      refine ⟨L.length, ⟨a, b, z, clk⟩, by simp [wopen, hw], by simp [wstamp_none hw], ?_, ?_⟩
      · intro j x hj hx
        simp only [wopen, hw, Bool.false_eq_true, if_false] at hx
        rw [List.getElem?_append_left hj] at hx
        have := hok.1 x (List.mem_of_getElem? hx)
        rw [wstamp_none hw]; omega
      · rw [wput_new a b v clk L hw]
        simp only [wopen, hw, Bool.false_eq_true, if_false]
        apply List.ext_getElem?
        intro j
        rw [List.getElem?_modify]
        by_cases hj : j < L.length
        · have : L.length ≠ j := by omega
          rw [List.getElem?_append_left hj, List.getElem?_append_left hj]; simp [this]
        · rw [List.getElem?_append_right (by omega), List.getElem?_append_right (by omega)]
          by_cases hj' : j = L.length
          · simp [hj']
          · obtain ⟨q, hq⟩ : ∃ q, j - L.length = q + 1 := ⟨j - L.length - 1, by omega⟩
            have : L.length ≠ j := by omega
            simp [hq, this]
    | some p =>
      obtain ⟨i, u⟩ := p
      have hw := whas_of_find hh
      obtain ⟨e, _, h2, h3, h4, h5⟩ := wfind_some hh
      simp only [Nat.sub_zero] at h2 h5
      obtain ⟨e', h6, h7⟩ := wstamp_at (k := 0) (clk := clk) (by simpa using hh)
      rw [h2] at h6; cases h6
      have ho : wopen a b z clk L = L := by simp [wopen, hw]
      rw [ho]
      refine ⟨i, e, h2, h7, fun j x hj hx hn => ?_, wput_mod a b v clk L i u hh⟩
      have hnd := hok.2
      have hi : i < L.length := (List.getElem?_eq_some_iff.1 h2).1
      have h8 := (List.nodup_iff_pairwise_ne.1 hnd)
      rw [List.pairwise_iff_getElem] at h8
      have := h8 j i (by simp; omega) (by simpa using hi) hj
      simp only [List.getElem_map] at this
      have e1 := (List.getElem?_eq_some_iff.1 hx).2
      have e2 := (List.getElem?_eq_some_iff.1 h2).2
      rw [e1, e2] at this
      exact this (by rw [hn, h7])
  obtain ⟨i, e, h1, h2, h3, h4⟩ := hidx
  have hfi : (went (wopen a b z clk L)).findIdx? (fun e => (e.born : Int) == (wstamp a b clk L : Int)) = some i := by
    unfold went
    rw [List.findIdx?_toArray, List.findIdx?_eq_some_iff_getElem]
    have hi : i < (wopen a b z clk L).length := (List.getElem?_eq_some_iff.1 h1).1
    refine ⟨by simpa using hi, ?_, fun j hj => ?_⟩
    · have e1 := (List.getElem?_eq_some_iff.1 h1).2
      simp [e1, WE.ent, h2]
    · have hj' : j < (wopen a b z clk L).length := by omega
      have := h3 j _ hj (List.getElem?_eq_getElem hj')
      simp only [List.getElem_map, WE.ent]
      simp only [beq_iff_eq]
      omega
  unfold Instr.entryStore
  simp only [Sem.run_bind, hg, Result.andThen, asInt, asIntOf, Sem.run_pure, hfi, hs]
  congr 3
  rw [h4]
  have := went_modify (wopen a b z clk L) i (fun e => { e with v := v }) (fun e => { e with val := v }) (fun e' he' => by simp [WE.ent])
  exact this.symm
end

theorem wval_wput_same (a b : Int) (z v : Value) (n : Nat) : ∀ L : List WE, wval a b z (wput a b v n L) = v
  | [] => by simp [wput, wval, WE.is]
  | e :: r => by
    by_cases h : e.is a b = true
    · have h' : WE.is a b { e with v := v } = true := h
      simp [wput, wval, h, h']
    · simp [wput, wval, h, wval_wput_same a b z v n r]
theorem wval_wput_other (a b c d : Int) (z v : Value) (n : Nat) (hne : c ≠ a ∨ d ≠ b) : ∀ L : List WE, wval c d z (wput a b v n L) = wval c d z L
  | [] => by
    have : WE.is c d ⟨a, b, v, n⟩ = false := by
      simp only [WE.is, Bool.and_eq_false_iff, beq_eq_false_iff_ne]
      exact hne
    simp [wput, wval, this]
  | e :: r => by
    by_cases h : e.is a b = true
    · have h2 : WE.is c d e = false := by
        simp only [WE.is, Bool.and_eq_true, beq_iff_eq] at h
        simp only [WE.is, Bool.and_eq_false_iff, beq_eq_false_iff_ne]
        rw [← h.1, ← h.2]; exact hne
      have h' : WE.is c d { e with v := v } = false := h2
      simp [wput, wval, h, h', h2]
    · by_cases h2 : WE.is c d e = true
      · simp [wput, wval, h, h2]
      · simp [wput, wval, h, h2, wval_wput_other a b c d z v n hne r]
theorem wput_n (a b : Int) (v : Value) (n : Nat) : ∀ L : List WE, (wput a b v n L).map (·.n) = if whas a b L then L.map (·.n) else L.map (·.n) ++ [n]
  | [] => by simp [wput, whas]
  | e :: r => by
    by_cases h : e.is a b = true
    · simp [wput, whas, h]
    · have := wput_n a b v n r
      simp only [whas] at this
      have h' : WE.is a b e = false := by simpa using h
      simp only [wput, whas, List.any_cons, h', Bool.false_or, Bool.false_eq_true, if_false, List.map_cons, this]
      by_cases hr : r.any (WE.is a b) = true
      · simp only [hr, if_true]
      · simp only [hr, if_false, List.cons_append]; rfl
theorem WOK.put {L : List WE} {clk : Nat} (h : WOK L clk) (a b : Int) (v : Value) : WOK (wput a b v clk L) (if whas a b L then clk else clk + 1) := by
  have hn := wput_n a b v clk L
  have hall : ∀ n ∈ L.map (·.n), n < clk := by
    intro n hn'
    simp only [List.mem_map] at hn'
    obtain ⟨e, he, rfl⟩ := hn'
    exact h.1 e he
  constructor
  · intro e he
    have hm : e.n ∈ (wput a b v clk L).map (·.n) := List.mem_map.2 ⟨e, he, rfl⟩
    rw [hn] at hm
    split at hm
    · rename_i hw; rw [if_pos hw]; exact hall _ hm
    · rename_i hw; rw [if_neg hw]
      rcases List.mem_append.1 hm with hm | hm
      · have := hall _ hm; omega
      · simp at hm; omega
  · rw [hn]
    split
    · exact h.2
    · refine List.nodup_append.2 ⟨h.2, by simp, ?_⟩
      intro x hx y hy hxy
      simp at hy
      have := hall x hx
      omega
theorem WOK.nil : WOK [] 0 := ⟨by simp, by simp⟩
end Go.Proofs.Ytdjaofkbgkifkaa

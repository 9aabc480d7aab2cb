/- append onto a row with room; clear of one element of a row's spare part. -/
import Derived.Test.YtdjaofkbgkifkaaRow
import Derived.Test.YtdjaofkbgkifkaaRdl
set_option linter.unusedVariables false
set_option linter.unusedSimpArgs false
namespace Go.Proofs.Ytdjaofkbgkifkaa
open Go.RowKit

theorem Row.zero {w : World} {size n cap : Nat} {A : Option Addr} {xs : List Value} (h : Row w size (.slice A n cap) xs) : Row w size (.slice A 0 cap) [] := by
  obtain ⟨A', n', cap', he, h1, h2, h3, h4⟩ := h
  cases he
  refine ⟨A, 0, cap, rfl, by simp, Nat.zero_le _, h3, ?_⟩
  rcases h4 with h4 | ⟨g, off, cur, T, rfl, h5, h6, h7⟩
  · exact .inl h4
  · exact .inr ⟨g, off, cur, T, rfl, h5, h6, by simp⟩
/-- append(v, x...) with room. -/
theorem run_append_room_row {P : Program} (w : World) (t ty e : TypeId) (size : Nat) (ht : P.underlying t = some (.slice e)) (hinfo : (P.info? e).map (fun i => i.size) = some size)
    (g off n cap : Nat) (xs : List Value) (hv : Row w size (.slice (some ⟨g, off, none⟩) n cap) xs) (A : Option Addr) (m c : Nat) (news : List Value) (hl : news.length = m * size) (hnews : ReadsAs w A news) (h1 : ∀ u ∈ news, u.oneCell' = true)
    (hroom : n + m ≤ cap) (hc : cap ≠ 0) :
    ∃ w', (Builtin.append_ #[t, t] ty #[.slice (some ⟨g, off, none⟩) n cap, .slice A m c]).run P w = .ok (.slice (some ⟨g, off, none⟩) (n + m) cap) w' ∧ Row w' size (.slice (some ⟨g, off, none⟩) (n + m) cap) (xs ++ news) ∧ w.grownBy w' (some g) := by
  obtain ⟨i, hi, hsize⟩ := Option.map_eq_some_iff.1 hinfo
  subst hsize
  obtain ⟨A', n', cap', he, h2, h3, h4, h5⟩ := hv
  cases he
  have hlen' : (xs ++ news).length = (n + m) * i.size := by rw [List.length_append, h2, hl, Nat.add_mul]
  rcases h5 with h5 | ⟨g', off', cur, T, he, h6, h7, h8⟩
  · exact absurd h5 hc
  cases he
  have hf := hnews.first (P := P) i.size m c hl
  have hfit : off + n * i.size + news.length ≤ cur.size := by
    rw [hl, Nat.add_assoc, ← Nat.add_mul]
    have : (n + m) * i.size ≤ cap * i.size := Nat.mul_le_mul_right _ hroom
    omega
  have hst := run_storeCells_at P g (off + n * i.size) T news 0 cur w h6 (by simpa using hfit) h1
  simp only [Nat.add_zero] at hst
  have ha : (⟨g, off, none⟩ : Addr).add (n * i.size) = ⟨g, off + n * i.size, none⟩ := by unfold Addr.add; split <;> simp_all
  refine ⟨w.setRow g (cur.toList.take (off + n * i.size) ++ news ++ cur.toList.drop (off + n * i.size + news.length)).toArray, ?_, ?_, ?_⟩
  · simp [Builtin.append_, run_underlying ht, sizeOf, typeInfo, hi, Builtin.lenOf, hroom, hf, ha, hst]
  · refine ⟨_, _, _, rfl, hlen', hroom, h4, .inr ⟨g, off, _, T, rfl, setRow_heap w g cur _ T _ h6, ?_, ?_⟩⟩
    · simp only [List.size_toArray, List.length_append, List.length_take, List.length_drop, Array.length_toList]
      omega
    · have hle : off + n * i.size ≤ cur.toList.length := by simp; omega
      rw [List.append_assoc, List.drop_append_of_le_length (by simp; omega), List.drop_take, Nat.add_sub_cancel_left]
      rw [h8, ← List.append_assoc, ← hlen', List.take_left]
  · exact ⟨rfl, rfl, rfl, by simp, fun k _ hk => setRow_other w g k _ (fun e => hk (by simp [e]))⟩
/-- clear(v[n:n+1]). -/
theorem run_clear_row {P : Program} (w : World) (t ty e : TypeId) (z : Value) (size : Nat) (ht : P.underlying t = some (.slice e)) (hinfo : (P.info? e).map (fun i => (i.zero, i.size)) = some (some z, size)) (hz : z.cells.size = size) (hz1 : ∀ u ∈ z.cells.toList, u.oneCell' = true)
    (g off n cap c : Nat) (xs : List Value) (hv : Row w size (.slice (some ⟨g, off, none⟩) n cap) xs) (hn : n + 1 ≤ cap) :
    ∃ w', (Builtin.clear_ #[t] ty #[.slice (some ⟨g, off + n * size, none⟩) 1 c]).run P w = .ok (.tuple #[]) w' ∧ Row w' size (.slice (some ⟨g, off, none⟩) n cap) xs ∧ w.grownBy w' (some g) := by
  obtain ⟨i, hi, hzz⟩ := Option.map_eq_some_iff.1 hinfo
  simp only [Prod.mk.injEq] at hzz
  obtain ⟨hz0, hsize⟩ := hzz
  subst hsize
  obtain ⟨A', n', cap', he, h2, h3, h4, h5⟩ := hv
  cases he
  rcases h5 with h5 | ⟨g', off', cur, T, he, h6, h7, h8⟩
  · omega
  cases he
  have hzc : (Builtin.zeroCells z.cells 1).toList = z.cells.toList := by
    apply List.ext_getElem?
    intro j
    by_cases hj : j < z.cells.size
    · simp [Builtin.zeroCells, hj, Nat.mod_eq_of_lt hj]
    · simp [Builtin.zeroCells, hj]
  have hfit : off + n * i.size + z.cells.toList.length ≤ cur.size := by
    rw [Array.length_toList, hz]
    have : (n + 1) * i.size ≤ cap * i.size := Nat.mul_le_mul_right _ hn
    rw [Nat.add_mul] at this
    omega
  have hst := run_storeCells_at P g (off + n * i.size) T z.cells.toList 0 cur w h6 (by simpa using hfit) hz1
  simp only [Nat.add_zero] at hst
  refine ⟨w.setRow g (cur.toList.take (off + n * i.size) ++ z.cells.toList ++ cur.toList.drop (off + n * i.size + z.cells.toList.length)).toArray, ?_, ?_, ?_⟩
  · simp only [Builtin.clear_]
    simp [run_underlying ht, zeroValue, typeInfo, hi, hz0, hzc, hst]
  · refine ⟨_, _, _, rfl, h2, h3, h4, .inr ⟨g, off, _, T, rfl, setRow_heap w g cur _ T _ h6, ?_, ?_⟩⟩
    · simp only [List.size_toArray, List.length_append, List.length_take, List.length_drop, Array.length_toList]
      simp only [Array.length_toList] at hfit
      omega
    · have hle : off + n * i.size ≤ cur.toList.length := by simp; omega
      rw [List.append_assoc, List.drop_append_of_le_length (by simp; omega), List.drop_take, Nat.add_sub_cancel_left]
      rw [h8, ← h2, List.take_left]
  · exact ⟨rfl, rfl, rfl, by simp, fun k _ hk => setRow_other w g k _ (fun e => hk (by simp [e]))⟩
theorem wp_append_room {P : Program} (w : World) {o : Oper} {a : Act} {K : Act → World → Prop} {Q : Exit → Act → World → Prop} (s x : Operand) (t e : TypeId)
    (ho : o.op = .call { callee := .builtin .append, args := #[s, x], argTypes := #[t, t] }) (size : Nat) (ht : P.underlying t = some (.slice e)) (hinfo : (P.info? e).map (fun i => i.size) = some size)
    (g off n cap : Nat) (xs : List Value) (hs : a.eval s = .slice (some ⟨g, off, none⟩) n cap) (hv : Row w size (.slice (some ⟨g, off, none⟩) n cap) xs) (A : Option Addr) (m c : Nat) (news : List Value) (hx : a.eval x = .slice A m c) (hl : news.length = m * size) (hnews : ReadsAs w A news) (h1 : ∀ u ∈ news, u.oneCell' = true)
    (hroom : n + m ≤ cap) (hc : cap ≠ 0)
    (h : ∀ w', Row w' size (.slice (some ⟨g, off, none⟩) (n + m) cap) (xs ++ news) → w.grownBy w' (some g) → K (a.put o.dst (.slice (some ⟨g, off, none⟩) (n + m) cap)) w') : o.wp P a w K Q := by
  obtain ⟨w', hr, h2, h3⟩ := run_append_room_row (P := P) w t o.type e size ht hinfo g off n cap xs hv A m c news hl hnews h1 hroom hc
  unfold Oper.wp execOp
  simp only [ho, resolve, invoke, builtin, Sem.run_bind, Sem.run_pure, Result.andThen_ok, List.map_toArray, List.map_cons, List.map_nil, hs, hx, hr]
  exact h w' h2 h3
theorem wpList_append_room {P : Program} (w : World) {ops : Array Oper} {rest : List Oper} {o : Oper} {a : Act} {Q : Exit → Act → World → Prop} (hgd : o.guard = none) (s x : Operand) (t e : TypeId)
    (ho : o.op = .call { callee := .builtin .append, args := #[s, x], argTypes := #[t, t] }) (size : Nat) (ht : P.underlying t = some (.slice e)) (hinfo : (P.info? e).map (fun i => i.size) = some size)
    (g off n cap : Nat) (xs : List Value) (hs : a.eval s = .slice (some ⟨g, off, none⟩) n cap) (hv : Row w size (.slice (some ⟨g, off, none⟩) n cap) xs) (A : Option Addr) (m c : Nat) (news : List Value) (hx : a.eval x = .slice A m c) (hl : news.length = m * size) (hnews : ReadsAs w A news) (h1 : ∀ u ∈ news, u.oneCell' = true)
    (hroom : n + m ≤ cap) (hc : cap ≠ 0)
    (h : ∀ w', Row w' size (.slice (some ⟨g, off, none⟩) (n + m) cap) (xs ++ news) → w.grownBy w' (some g) → wpList P ops Q rest (a.put o.dst (.slice (some ⟨g, off, none⟩) (n + m) cap)) w') : wpList P ops Q (o :: rest) a w :=
  wpList_plain hgd fun _ hK => wp_append_room w s x t e ho size ht hinfo g off n cap xs hs hv A m c news hx hl hnews h1 hroom hc fun w' h2 h3 => hK _ _ (h w' h2 h3)
end Go.Proofs.Ytdjaofkbgkifkaa

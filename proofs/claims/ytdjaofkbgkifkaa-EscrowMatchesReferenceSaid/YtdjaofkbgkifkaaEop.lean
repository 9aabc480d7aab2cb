/- Package escrow: what the operations do, in plain Lean, and what stays true. -/
import Derived.Test.YtdjaofkbgkifkaaE2
set_option linter.unusedVariables false
set_option linter.unusedSimpArgs false
namespace Go.Proofs.Ytdjaofkbgkifkaa

theorem sum_range_upd (n i : Nat) (f f' : Nat → Int) (hi : i < n) (h : ∀ k, k ≠ i → f' k = f k) : ((List.range n).map f').sum = ((List.range n).map f).sum + (f' i - f i) := by
  induction n with
  | zero => omega
  | succ n ih =>
    rw [List.range_succ, List.map_append, List.map_append, List.sum_append, List.sum_append]
    simp only [List.map_cons, List.map_nil, List.sum_cons, List.sum_nil]
    by_cases e : i = n
    · subst e
      have : (List.range i).map f' = (List.range i).map f := List.map_congr_left (fun k hk => h k (by have := List.mem_range.1 hk; omega))
      rw [this]; omega
    · have := ih (by omega)
      have e' := h n (by omega)
      omega
def gsum (n : Nat) (f : Nat → Nat → Int) : Int := ((List.range n).map fun a => ((List.range n).map fun b => f a b).sum).sum
theorem gsum_upd (n a b : Nat) (f f' : Nat → Nat → Int) (ha : a < n) (hb : b < n) (h : ∀ x y, (x ≠ a ∨ y ≠ b) → f' x y = f x y) : gsum n f' = gsum n f + (f' a b - f a b) := by
  unfold gsum
  rw [sum_range_upd n a (fun x => ((List.range n).map fun y => f x y).sum) (fun x => ((List.range n).map fun y => f' x y).sum) ha (fun k hk => by congr 1; exact List.map_congr_left (fun y _ => h k y (.inl hk)))]
  rw [sum_range_upd n b (f a) (f' a) hb (fun k hk => h a k (.inr hk))]
  change _ + (_ + _ - ((List.range n).map (f a)).sum) = _
  omega
theorem gsum_congr (n : Nat) (f f' : Nat → Nat → Int) (h : ∀ x y, x < n → y < n → f' x y = f x y) : gsum n f' = gsum n f := by
  unfold gsum
  congr 1
  refine List.map_congr_left (fun x hx => ?_)
  congr 1
  exact List.map_congr_left (fun y hy => h x y (List.mem_range.1 hx) (List.mem_range.1 hy))
theorem sum_nonneg : ∀ (l : List Int), (∀ x ∈ l, 0 ≤ x) → 0 ≤ l.sum
  | [], _ => by simp
  | x :: r, h => by
    have h1 := h x (by simp)
    have h2 := sum_nonneg r (fun y hy => h y (by simp [hy]))
    rw [List.sum_cons]; omega
theorem mem_le_sum : ∀ (l : List Int), (∀ x ∈ l, 0 ≤ x) → ∀ x ∈ l, x ≤ l.sum
  | [], _, x, hx => by simp at hx
  | y :: r, h, x, hx => by
    have h1 := h y (by simp)
    have h2 := sum_nonneg r (fun y hy => h y (by simp [hy]))
    rw [List.sum_cons]
    rcases List.mem_cons.1 hx with rfl | hx
    · omega
    · have := mem_le_sum r (fun y hy => h y (by simp [hy])) x hx
      omega
theorem gsum_nonneg (n : Nat) (f : Nat → Nat → Int) (h : ∀ x y, x < n → y < n → 0 ≤ f x y) : 0 ≤ gsum n f := by
  refine sum_nonneg _ (fun z hz => ?_)
  obtain ⟨a, ha, rfl⟩ := List.mem_map.1 hz
  refine sum_nonneg _ (fun z hz => ?_)
  obtain ⟨b, hb, rfl⟩ := List.mem_map.1 hz
  exact h a b (List.mem_range.1 ha) (List.mem_range.1 hb)
theorem le_gsum (n : Nat) (f : Nat → Nat → Int) (h : ∀ x y, x < n → y < n → 0 ≤ f x y) (a b : Nat) (ha : a < n) (hb : b < n) : f a b ≤ gsum n f := by
  have h1 : f a b ≤ ((List.range n).map fun b => f a b).sum := mem_le_sum _ (fun z hz => by
    obtain ⟨b, hb, rfl⟩ := List.mem_map.1 hz
    exact h a b ha (List.mem_range.1 hb)) _ (List.mem_map.2 ⟨b, List.mem_range.2 hb, rfl⟩)
  have h2 : ((List.range n).map fun b => f a b).sum ≤ gsum n f := mem_le_sum ((List.range n).map fun a => ((List.range n).map fun b => f a b).sum) (fun z hz => by
    obtain ⟨a, ha, rfl⟩ := List.mem_map.1 hz
    refine sum_nonneg _ (fun z hz => ?_)
    obtain ⟨b, hb, rfl⟩ := List.mem_map.1 hz
    exact h a b (List.mem_range.1 ha) (List.mem_range.1 hb)) _ (List.mem_map.2 ⟨a, List.mem_range.2 ha, rfl⟩)
  omega
theorem sum_set_map {α : Type} (f : α → Int) : ∀ (l : List α) (i : Nat) (x x' : α), l[i]? = some x → ((l.set i x').map f).sum = (l.map f).sum + (f x' - f x)
  | [], i, x, x', h => by simp at h
  | y :: l, 0, x, x', h => by simp at h; subst h; simp; omega
  | y :: l, i + 1, x, x', h => by
    have h' : l[i]? = some x := by simpa using h
    have := sum_set_map f l i x x' h'
    rw [List.set_cons_succ, List.map_cons, List.sum_cons, this, List.map_cons, List.sum_cons]
    omega

def ES.ac (S : ES) (i : Int) : Acc := (S.acc[i.toNat]?).getD ⟨0, 0, false⟩
def ES.putA (S : ES) (i : Int) (x : Acc) : ES := { S with acc := S.acc.set i.toNat x }
def ES.putL (S : ES) (a b : Int) (l : EL) : ES := { S with ln := fun x y => if x = a ∧ y = b then l else S.ln x y }
@[simp] theorem ES.putA_len (S : ES) (i : Int) (x : Acc) : (S.putA i x).acc.length = S.acc.length := by simp [ES.putA]
@[simp] theorem ES.putA_ln (S : ES) (i : Int) (x : Acc) : (S.putA i x).ln = S.ln := rfl
@[simp] theorem ES.putL_acc (S : ES) (a b : Int) (l : EL) : (S.putL a b l).acc = S.acc := rfl
theorem ES.putL_same (S : ES) (a b : Int) (l : EL) : (S.putL a b l).ln a b = l := by simp [ES.putL]
theorem ES.putL_other (S : ES) (a b : Int) (l : EL) (x y : Int) (h : x ≠ a ∨ y ≠ b) : (S.putL a b l).ln x y = S.ln x y := by
  simp only [ES.putL]
  rw [if_neg]
  rintro ⟨rfl, rfl⟩
  rcases h with h | h <;> exact h rfl
/-- What flies on a line. -/
def EL.fly (l : EL) : Int := (l.all.drop l.rcv).sum
def eFly (S : ES) : Int := gsum S.acc.length (fun a b => if a = b then 0 else (S.ln a b).fly)
def eSpent (S : ES) : Int := (S.acc.map (·.s)).sum
def eUnits (S : ES) : Int := (S.acc.map (·.u)).sum

structure Shape (t : Nat) (S : ES) : Prop where
  n1 : 1 ≤ S.acc.length
  n8 : S.acc.length ≤ 8
  u0 : ∀ (i : Nat) x, S.acc[i]? = some x → 0 ≤ x.u ∧ 0 ≤ x.s
  cr : ∀ a b, pairB S.acc.length a b = true → (S.ln a b).conf ≤ (S.ln a b).rcv
  ra : ∀ a b, pairB S.acc.length a b = true → (S.ln a b).rcv ≤ (S.ln a b).all.length
  q : ∀ a b, pairB S.acc.length a b = true → (S.ln a b).all.length ≤ (S.ln a b).conf + 100
  tm : ∀ a b, pairB S.acc.length a b = true → (S.ln a b).all.length ≤ t
  pos : ∀ a b, pairB S.acc.length a b = true → ∀ x ∈ (S.ln a b).all, 1 ≤ x
  mq : ∀ a b, pairB S.acc.length a b = true → (S.ln a b).ms.length ≤ 100
  mm : ∀ a b, pairB S.acc.length a b = true → ∀ m ∈ (S.ln a b).ms, m.f ≤ (S.ln a b).rcv ∧ m.f ≤ m.l ∧ m.l ≤ (S.ln a b).all.length ∧ m.l ≤ m.f + 100 ∧ m.c ≤ (S.ln b a).rcv
structure Inv (U : Int) (t : Nat) (S : ES) : Prop where
  sh : Shape t S
  sum : eUnits S + eSpent S + eFly S = U

theorem pairB_swap {n : Nat} {a b : Int} (h : pairB n a b = true) : pairB n b a = true := by
  simp only [pairB, decide_eq_true_eq] at h ⊢
  exact ⟨h.2.2.1, h.2.2.2.1, h.1, h.2.1, fun e => h.2.2.2.2 e.symm⟩
theorem pairB_left {n : Nat} {a b : Int} (h : pairB n a b = true) : isB n a = true := by
  simp only [pairB, isB, decide_eq_true_eq] at h ⊢
  exact ⟨h.1, h.2.1⟩
theorem pairB_right {n : Nat} {a b : Int} (h : pairB n a b = true) : isB n b = true := by
  simp only [pairB, isB, decide_eq_true_eq] at h ⊢
  exact ⟨h.2.2.1, h.2.2.2.1⟩
theorem pairB_ne {n : Nat} {a b : Int} (h : pairB n a b = true) : a ≠ b := by
  simp only [pairB, decide_eq_true_eq] at h
  exact h.2.2.2.2
theorem ES.ac_get {S : ES} {i : Int} (h : isB S.acc.length i = true) : S.acc[i.toNat]? = some (S.ac i) := by
  obtain ⟨r, x, rfl, hx⟩ := isB_get h
  simp only [ES.ac, Int.toNat_natCast, hx, Option.getD_some]
theorem ES.putA_same {S : ES} {i : Int} (h : isB S.acc.length i = true) (x : Acc) : (S.putA i x).ac i = x := by
  obtain ⟨r, y, rfl, hy⟩ := isB_get h
  have := (List.getElem?_eq_some_iff.1 hy).1
  simp [ES.ac, ES.putA, this]
theorem ES.putA_other {S : ES} {i j : Int} (hi : 0 ≤ i) (hj : 0 ≤ j) (h : j ≠ i) (x : Acc) : (S.putA i x).ac j = S.ac j := by
  have : i.toNat ≠ j.toNat := by omega
  simp [ES.ac, ES.putA, List.getElem?_set_ne this]
@[simp] theorem ES.putL_ac (S : ES) (a b : Int) (l : EL) (i : Int) : (S.putL a b l).ac i = S.ac i := rfl

theorem Shape.mono {t t' : Nat} {S : ES} (h : Shape t S) (ht : t ≤ t') : Shape t' S :=
  ⟨h.n1, h.n8, h.u0, h.cr, h.ra, h.q, fun a b p => Nat.le_trans (h.tm a b p) ht, h.pos, h.mq, h.mm⟩
theorem Inv.mono {U : Int} {t t' : Nat} {S : ES} (h : Inv U t S) (ht : t ≤ t') : Inv U t' S := ⟨h.sh.mono ht, h.sum⟩
theorem Shape.putA {t : Nat} {S : ES} (h : Shape t S) (i : Int) (x : Acc) (hu : 0 ≤ x.u) (hs : 0 ≤ x.s) : Shape t (S.putA i x) := by
  have hl := ES.putA_len S i x
  refine ⟨by rw [hl]; exact h.n1, by rw [hl]; exact h.n8, ?_, ?_, ?_, ?_, ?_, ?_, ?_, ?_⟩
  · intro j y hj
    simp only [ES.putA] at hj
    rw [List.getElem?_set] at hj
    split at hj
    · split at hj
      · cases hj; exact ⟨hu, hs⟩
      · cases hj
    · exact h.u0 j y hj
  all_goals (rw [hl]; simp only [ES.putA_ln])
  · exact h.cr
  · exact h.ra
  · exact h.q
  · exact h.tm
  · exact h.pos
  · exact h.mq
  · exact h.mm
structure LineOK (t : Nat) (l back : EL) : Prop where
  cr : l.conf ≤ l.rcv
  ra : l.rcv ≤ l.all.length
  q : l.all.length ≤ l.conf + 100
  tm : l.all.length ≤ t
  pos : ∀ x ∈ l.all, 1 ≤ x
  mq : l.ms.length ≤ 100
  mm : ∀ m ∈ l.ms, m.f ≤ l.rcv ∧ m.f ≤ m.l ∧ m.l ≤ l.all.length ∧ m.l ≤ m.f + 100 ∧ m.c ≤ back.rcv
theorem Shape.ok {t : Nat} {S : ES} (h : Shape t S) {a b : Int} (p : pairB S.acc.length a b = true) : LineOK t (S.ln a b) (S.ln b a) :=
  ⟨h.cr a b p, h.ra a b p, h.q a b p, h.tm a b p, h.pos a b p, h.mq a b p, h.mm a b p⟩
theorem Shape.putL {t : Nat} {S : ES} (h : Shape t S) {a b : Int} (p : pairB S.acc.length a b = true) {l : EL} (hl : LineOK t l (S.ln b a)) (hr : (S.ln a b).rcv ≤ l.rcv) : Shape t (S.putL a b l) := by
  have key : ∀ x y, pairB S.acc.length x y = true → LineOK t ((S.putL a b l).ln x y) ((S.putL a b l).ln y x) := by
    intro x y hp
    have hne := pairB_ne p
    by_cases h1 : x = a ∧ y = b
    · obtain ⟨rfl, rfl⟩ := h1
      rw [ES.putL_same, ES.putL_other _ _ _ _ _ _ (.inl hne.symm)]
      exact hl
    · have e1 : (S.putL a b l).ln x y = S.ln x y := ES.putL_other _ _ _ _ _ _ (by
        by_cases hx : x = a
        · exact .inr (fun hy => h1 ⟨hx, hy⟩)
        · exact .inl hx)
      rw [e1]
      have h0 := h.ok hp
      by_cases h2 : y = a ∧ x = b
      · obtain ⟨rfl, rfl⟩ := h2
        rw [ES.putL_same]
        exact ⟨h0.cr, h0.ra, h0.q, h0.tm, h0.pos, h0.mq, fun m hm => by have := h0.mm m hm; omega⟩
      · rw [ES.putL_other _ _ _ _ _ _ (by
          by_cases hx : y = a
          · exact .inr (fun hy => h2 ⟨hx, hy⟩)
          · exact .inl hx)]
        exact h0
  exact ⟨h.n1, h.n8, h.u0, fun x y hp => (key x y hp).cr, fun x y hp => (key x y hp).ra, fun x y hp => (key x y hp).q, fun x y hp => (key x y hp).tm, fun x y hp => (key x y hp).pos, fun x y hp => (key x y hp).mq, fun x y hp => (key x y hp).mm⟩
theorem putA_units {S : ES} {i : Int} (h : isB S.acc.length i = true) (x : Acc) : eUnits (S.putA i x) = eUnits S + (x.u - (S.ac i).u) ∧ eSpent (S.putA i x) = eSpent S + (x.s - (S.ac i).s) ∧ eFly (S.putA i x) = eFly S := by
  refine ⟨sum_set_map _ _ _ _ _ (ES.ac_get h), sum_set_map _ _ _ _ _ (ES.ac_get h), ?_⟩
  unfold eFly
  rw [ES.putA_len]; rfl
theorem putL_units {S : ES} {a b : Int} (p : pairB S.acc.length a b = true) (l : EL) : eUnits (S.putL a b l) = eUnits S ∧ eSpent (S.putL a b l) = eSpent S ∧ eFly (S.putL a b l) = eFly S + (l.fly - (S.ln a b).fly) := by
  refine ⟨rfl, rfl, ?_⟩
  simp only [pairB, decide_eq_true_eq] at p
  obtain ⟨h1, h2, h3, h4, h5⟩ := p
  obtain ⟨a, rfl⟩ := Int.eq_ofNat_of_zero_le h1
  obtain ⟨b, rfl⟩ := Int.eq_ofNat_of_zero_le h3
  unfold eFly
  rw [ES.putL_acc, gsum_upd S.acc.length a b (fun a b => if a = b then 0 else (S.ln a b).fly) _ (by omega) (by omega) (fun x y h => ?_)]
  · have e : a ≠ b := fun e => h5 (by rw [e])
    simp only [if_neg e, ES.putL_same]
  · rw [ES.putL_other _ _ _ _ _ _ (by omega)]
theorem fly_nonneg {t : Nat} {S : ES} (h : Shape t S) {a b : Int} (p : pairB S.acc.length a b = true) : 0 ≤ (S.ln a b).fly :=
  sum_nonneg _ (fun x hx => by have := h.pos a b p x (List.mem_of_mem_drop hx); omega)
theorem nat_pair {n a b : Nat} (ha : a < n) (hb : b < n) (h : a ≠ b) : pairB n a b = true := by
  simp only [pairB, decide_eq_true_eq]; omega
theorem eFly_nonneg {t : Nat} {S : ES} (h : Shape t S) : 0 ≤ eFly S :=
  gsum_nonneg _ _ (fun x y hx hy => by
    by_cases e : x = y
    · simp [e]
    · simp only [if_neg e]; exact fly_nonneg h (nat_pair hx hy e))
theorem le_eFly {t : Nat} {S : ES} (h : Shape t S) {a b : Int} (p : pairB S.acc.length a b = true) : (S.ln a b).fly ≤ eFly S := by
  have hp := p
  simp only [pairB, decide_eq_true_eq] at p
  obtain ⟨h1, h2, h3, h4, h5⟩ := p
  obtain ⟨a, rfl⟩ := Int.eq_ofNat_of_zero_le h1
  obtain ⟨b, rfl⟩ := Int.eq_ofNat_of_zero_le h3
  have := le_gsum S.acc.length (fun a b => if a = b then 0 else (S.ln a b).fly) (fun x y hx hy => by
    by_cases e : x = y
    · simp [e]
    · simp only [if_neg e]; exact fly_nonneg h (nat_pair hx hy e)) a b (by omega) (by omega)
  have e : a ≠ b := fun e => h5 (by rw [e])
  rw [if_neg e] at this
  exact this
theorem acc_mem {S : ES} {i : Int} (h : isB S.acc.length i = true) : S.ac i ∈ S.acc := List.mem_of_getElem? (ES.ac_get h)
theorem Shape.ac {t : Nat} {S : ES} (h : Shape t S) {i : Int} (hi : isB S.acc.length i = true) : 0 ≤ (S.ac i).u ∧ 0 ≤ (S.ac i).s := h.u0 _ _ (ES.ac_get hi)
theorem mem_u0 {t : Nat} {S : ES} (h : Shape t S) {x : Acc} (hx : x ∈ S.acc) : 0 ≤ x.u ∧ 0 ≤ x.s := by
  obtain ⟨i, hi, rfl⟩ := List.mem_iff_getElem.1 hx
  exact h.u0 i _ (List.getElem?_eq_getElem hi)
theorem le_units {t : Nat} {S : ES} (h : Shape t S) {i : Int} (hi : isB S.acc.length i = true) : (S.ac i).u ≤ eUnits S ∧ (S.ac i).s ≤ eSpent S ∧ 0 ≤ eUnits S ∧ 0 ≤ eSpent S := by
  have h1 : ∀ x ∈ S.acc.map (·.u), 0 ≤ x := fun x hx => by obtain ⟨y, hy, rfl⟩ := List.mem_map.1 hx; exact (mem_u0 h hy).1
  have h2 : ∀ x ∈ S.acc.map (·.s), 0 ≤ x := fun x hx => by obtain ⟨y, hy, rfl⟩ := List.mem_map.1 hx; exact (mem_u0 h hy).2
  exact ⟨mem_le_sum _ h1 _ (List.mem_map.2 ⟨_, acc_mem hi, rfl⟩), mem_le_sum _ h2 _ (List.mem_map.2 ⟨_, acc_mem hi, rfl⟩), sum_nonneg _ h1, sum_nonneg _ h2⟩
/-- Whatever an account has, and what flies on a line, is at most the units of the licence. -/
theorem Inv.bound {U : Int} {t : Nat} {S : ES} (h : Inv U t S) {i : Int} (hi : isB S.acc.length i = true) : 0 ≤ (S.ac i).u ∧ 0 ≤ (S.ac i).s ∧ (S.ac i).u + (S.ac i).s ≤ U := by
  have h1 := h.sh.ac hi
  have h2 := le_units h.sh hi
  have h3 := eFly_nonneg h.sh
  have h4 := h.sum
  exact ⟨h1.1, h1.2, by omega⟩
theorem Inv.bound2 {U : Int} {t : Nat} {S : ES} (h : Inv U t S) {a b : Int} (p : pairB S.acc.length a b = true) : 0 ≤ (S.ln a b).fly ∧ (S.ac b).u + (S.ln a b).fly ≤ U := by
  have h2 := le_units h.sh (pairB_right p)
  have h3 := le_eFly h.sh p
  have h4 := h.sum
  exact ⟨fly_nonneg h.sh p, by omega⟩
end Go.Proofs.Ytdjaofkbgkifkaa

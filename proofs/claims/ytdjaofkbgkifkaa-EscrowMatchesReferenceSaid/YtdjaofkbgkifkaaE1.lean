/- Package escrow: the abstract state, and what it is in memory. -/
import Derived.Test.YtdjaofkbgkifkaaWay
import Derived.Test.YtdjaofkbgkifkaaRow2
import Derived.Test.YtdjaofkbgkifkaaRow3
import Derived.Test.YtdjaofkbgkifkaaMake
import Derived.StillTailTactics
import Derived.Deep.RegionHeld3
import Derived.Deep.RegionLaw
set_option linter.unusedVariables false
set_option linter.unusedSimpArgs false
namespace Go.Proofs.Ytdjaofkbgkifkaa
open Go.RowKit

structure Acc where
  u : Int
  s : Int
  r : Bool
def Acc.cells (x : Acc) : List Value := [.int .i64 x.u, .int .i64 x.s, .bool x.r]
theorem Acc.cells_len (x : Acc) : x.cells.length = 3 := rfl
/-- A message: the transfers from f to l of all, c received, r revoked. -/
structure EM where
  f : Nat
  l : Nat
  c : Nat
  r : Bool
structure EL where
  all : List Int
  rcv : Nat
  conf : Nat
  ms : List EM
structure ES where
  acc : List Acc
  ln : Int → Int → EL
def EM.tr (m : EM) (all : List Int) : List Int := (all.take m.l).drop m.f
def EL.nil : EL := ⟨[], 0, 0, []⟩
def pairB (n : Nat) (a b : Int) : Bool := decide (0 ≤ a ∧ a < n ∧ 0 ≤ b ∧ b < n ∧ a ≠ b)
def icell (x : Int) : List Value := [.int .i64 x]
theorem icell_len (x : Int) : (icell x).length = 1 := rfl
def mcells (p : Value × EM) : List Value := [p.1, .int .i64 p.2.l, .int .i64 p.2.c, .bool p.2.r]
theorem mcells_len (p : Value × EM) : (mcells p).length = 4 := rfl

inductive Role where
  | main | acc | map | line (a b : Int) | tr (a b : Int) | ms (a b : Int) | imm | other

/-- A slice that nobody writes reads as a list. -/
def RdI (ρ : Nat → Role) (w : World) (v : Value) (xs : List Int) : Prop :=
  ∃ A n cap, v = .slice A n cap ∧ n = xs.length ∧ (0 < n → ∃ g off, A = some ⟨g, off, none⟩ ∧ ρ g = .imm ∧ g < w.heap.size ∧
    ∀ (j : Nat) (x : Int), xs[j]? = some x → w.cell? ⟨g, off + j, none⟩ = some (.int .i64 x))

/-- All pairs of different replicas, in order. -/
def pairsOf (n : Nat) : List (Int × Int) := (List.range n).flatMap fun a : Nat => ((List.range n).filter fun b : Nat => !(a == b)).map fun b : Nat => (((a : Nat) : Int), ((b : Nat) : Int))
structure EscAt (w : World) (ρ : Nat → Role) (g : Nat) (S : ES) (vA : Value) (mb : Nat) (L : List WE) (lk : Nat) (lb : Int → Int → Nat) (vT vM : Int → Int → Value) (mz : Int → Int → List (Value × EM)) : Prop where
  obj : w.heap[g]? = some (.cells #[vA, .map (some mb)] 101)
  acc : Row w 3 vA (S.acc.flatMap Acc.cells)
  map : w.heap[mb]? = some (.map (went L) lk)
  ok : WOK L lk
  val : ∀ a b, wval a b (.pointer none) L = if pairB S.acc.length a b then .pointer (some ⟨lb a b, 0, none⟩) else .pointer none
  line : ∀ a b, pairB S.acc.length a b = true → w.heap[lb a b]? = some (.cells #[vT a b, .int .i64 ((S.ln a b).all.length : Int), .int .i64 ((S.ln a b).rcv : Int), vM a b] 109)
  tr : ∀ a b, pairB S.acc.length a b = true → Row w 1 (vT a b) (((S.ln a b).all.drop (S.ln a b).conf).flatMap icell)
  ms : ∀ a b, pairB S.acc.length a b = true → Row w 4 (vM a b) ((mz a b).flatMap mcells)
  mq : ∀ a b, pairB S.acc.length a b = true → (mz a b).map (·.2) = (S.ln a b).ms
  im : ∀ a b, pairB S.acc.length a b = true → ∀ p ∈ mz a b, RdI ρ w p.1 (p.2.tr (S.ln a b).all)
  rg : ρ g = .main
  ra : ∀ k, rowBlk vA = some k → ρ k = .acc
  rm : ρ mb = .map
  rl : ∀ a b, pairB S.acc.length a b = true → ρ (lb a b) = .line a b
  rt : ∀ a b, pairB S.acc.length a b = true → ∀ k, rowBlk (vT a b) = some k → ρ k = .tr a b
  rs : ∀ a b, pairB S.acc.length a b = true → ∀ k, rowBlk (vM a b) = some k → ρ k = .ms a b
  ks : (List.map (fun e : WE => (e.a, e.b)) L) = pairsOf S.acc.length
  ev : ∀ e ∈ L, e.v = .pointer (some ⟨lb e.a e.b, 0, none⟩)
/-- An escrow in memory; its blocks are of F. -/
def EscIs (w : World) (F : Nat → Prop) (g : Nat) (S : ES) : Prop :=
  ∃ ρ vA mb L lk lb vT vM mz, EscAt w ρ g S vA mb L lk lb vT vM mz ∧ ∀ k, ρ k ≠ .other → F k
theorem RdI.keep {ρ : Nat → Role} {w w' : World} {v : Value} {xs : List Int} (h : RdI ρ w v xs) (hs : w.heap.size ≤ w'.heap.size) (hk : ∀ k, k < w.heap.size → ρ k = .imm → w'.heap[k]? = w.heap[k]?) : RdI ρ w' v xs := by
  obtain ⟨A, n, cap, rfl, hn, h0⟩ := h
  refine ⟨A, n, cap, rfl, hn, fun hp => ?_⟩
  obtain ⟨g, off, rfl, hi, hl, hc⟩ := h0 hp
  exact ⟨g, off, rfl, hi, Nat.lt_of_lt_of_le hl hs, fun j x hj => (World.cell?_of_block (hk g hl hi)).trans (hc j x hj)⟩
theorem EscAt.fr {w w' : World} {ρ : Nat → Role} {H : Nat → Prop} {g : Nat} {S : ES} {vA : Value} {mb : Nat} {L : List WE} {lk : Nat} {lb : Int → Int → Nat} {vT vM : Int → Int → Value} {mz : Int → Int → List (Value × EM)}
    (h : EscAt w ρ g S vA mb L lk lb vT vM mz) (hf : Fr H w w') (hd : ∀ k, ρ k ≠ .other → ¬ H k) : EscAt w' ρ g S vA mb L lk lb vT vM mz where
  obj := hf.heap h.obj (hd _ (by rw [h.rg]; simp))
  acc := h.acc.fr hf (fun k hk => hd k (by rw [h.ra k hk]; simp))
  map := hf.heap h.map (hd _ (by rw [h.rm]; simp))
  ok := h.ok
  val := h.val
  line := fun a b p => hf.heap (h.line a b p) (hd _ (by rw [h.rl a b p]; simp))
  tr := fun a b p => (h.tr a b p).fr hf (fun k hk => hd k (by rw [h.rt a b p k hk]; simp))
  ms := fun a b p => (h.ms a b p).fr hf (fun k hk => hd k (by rw [h.rs a b p k hk]; simp))
  mq := h.mq
  im := fun a b p q hq => (h.im a b p q hq).keep hf.size (fun k hk hi => hf.block k hk (hd k (by rw [hi]; simp)))
  rg := h.rg
  ra := h.ra
  rm := h.rm
  rl := h.rl
  rt := h.rt
  rs := h.rs
  ks := h.ks
  ev := h.ev
theorem EscIs.fr {w w' : World} {F H : Nat → Prop} {g : Nat} {S : ES} (h : EscIs w F g S) (hf : Fr H w w') (hd : ∀ k, F k → ¬ H k) : EscIs w' F g S := by
  obtain ⟨ρ, vA, mb, L, lk, lb, vT, vM, mz, h, hF⟩ := h
  exact ⟨ρ, vA, mb, L, lk, lb, vT, vM, mz, h.fr hf (fun k hk => hd k (hF k hk)), hF⟩
theorem EscIs.mono {w : World} {F G : Nat → Prop} {g : Nat} {S : ES} (h : EscIs w F g S) (hF : ∀ k, F k → G k) : EscIs w G g S := by
  obtain ⟨ρ, vA, mb, L, lk, lb, vT, vM, mz, h, hF'⟩ := h
  exact ⟨ρ, vA, mb, L, lk, lb, vT, vM, mz, h, fun k hk => hF k (hF' k hk)⟩
end Go.Proofs.Ytdjaofkbgkifkaa

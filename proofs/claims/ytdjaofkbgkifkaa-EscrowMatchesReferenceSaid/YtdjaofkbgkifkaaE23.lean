/- Package escrow: the law's open and empty. -/
import Derived.Test.YtdjaofkbgkifkaaE22
set_option linter.unusedVariables false
set_option linter.unusedSimpArgs false
namespace Go.Proofs.Ytdjaofkbgkifkaa
open Go.RowKit

def eRun (S : ES) (l : List EA) : ES := l.foldl (fun S x => (eDo S x).2) S
theorem eRun_snoc (S : ES) (l : List EA) (x : EA) : eRun S (l ++ [x]) = (eDo (eRun S l) x).2 := by simp [eRun]
theorem eRun_take {S : ES} {l : List EA} {k : Nat} {x : EA} (h : l[k]? = some x) : eRun S (l.take (k + 1)) = (eDo (eRun S (l.take k)) x).2 := by
  rw [List.take_add_one, h, Option.toList_some, eRun_snoc]
theorem eRun_len (S : ES) : ∀ l : List EA, (eRun S l).acc.length = S.acc.length := by
  intro l
  induction l generalizing S with
  | nil => rfl
  | cons x r ih => show (eRun (eDo S x).2 r).acc.length = _; rw [ih, eDo_len]
abbrev RdA (w : World) (v : Value) (l : List EA) : Prop := RdL EA.cells 6 w v l
def OKA (l : List EA) : Prop := ∀ x ∈ l, x.u ≤ 9223372036854775807
theorem RdA.fr {w w' : World} {v : Value} {l : List EA} (h : RdA w v l) (hf : Fr None' w w') : RdA w' v l := by
  obtain ⟨A, n, cap, rfl, hn, hl, h0⟩ := h
  refine ⟨A, n, cap, rfl, hn, hl, fun hp => ?_⟩
  obtain ⟨g, off, rfl, hc⟩ := h0 hp
  exact ⟨g, off, rfl, fun j x hj i u hu => hf.cell (hc j x hj i u hu) (fun h => h)⟩
theorem RdA.get {w : World} {A : Option Addr} {n cap : Nat} {l : List EA} (h : RdA w (.slice A n cap) l) {k : Nat} {x : EA} (hx : l[k]? = some x) :
    ∃ g off, A = some ⟨g, off, none⟩ ∧ w.cell? ⟨g, off + k * 6, none⟩ = some (.int .i64 x.k) ∧ w.cell? ⟨g, off + k * 6 + 1, none⟩ = some (.int .i64 x.a) ∧ w.cell? ⟨g, off + k * 6 + 2, none⟩ = some (.int .i64 x.b) ∧
    w.cell? ⟨g, off + k * 6 + 3, none⟩ = some (.int .i64 x.u) ∧ w.cell? ⟨g, off + k * 6 + 4, none⟩ = some (.bool x.lost) ∧ w.cell? ⟨g, off + k * 6 + 5, none⟩ = some (.bool x.again) := by
  obtain ⟨A', n', cap', he, hn, hl, h0⟩ := h
  cases he
  have hk : k < l.length := (List.getElem?_eq_some_iff.1 hx).1
  obtain ⟨g', off', rfl, hc⟩ := h0 (by omega)
  exact ⟨g', off', rfl, hc k x hx 0 _ rfl, hc k x hx 1 _ rfl, hc k x hx 2 _ rfl, hc k x hx 3 _ rfl, hc k x hx 4 _ rfl, hc k x hx 5 _ rfl⟩
/-- The escrow of the laws. -/
def eOpen (r : Nat) (u : Int) (l : List EA) : ES := eRun (eNew (1 + r % 4) u) (l.take 150)
theorem eOpen_len (r : Nat) (u : Int) (l : List EA) : (eOpen r u l).acc.length = 1 + r % 4 := by rw [eOpen, eRun_len, eNew_len]
theorem open_any (r : Nat) (hr : r ≤ 255) (u : Int) (hu : 0 ≤ u) (hu2 : u ≤ 65535) {v : Value} {l : List EA} {w : World} (hl : RdA w v l) (hok : OKA l) :
    Calls Try.prog 41 #[.int .u8 r, .int .u16 u, v] w fun e w' => ∃ g, e = .returned (.tuple #[.pointer (some ⟨g, 0, none⟩), .int .i64 ((1 + r % 4 : Nat) : Int)]) ∧ ESt u 150 w w' g (eOpen r u l) := by
  obtain ⟨A, n, cap, rfl, hn, hlen, _⟩ := id hl
  have HL := Lib.hid hl
  have HO := Lib.hid hok
  have Hn := Lib.hid hn
  have hm4 : r % 4 < 4 := Nat.mod_lt _ (by decide)
  clear hl hok hn
  go_enter Try.func41, Try.ntmps41
  go_wp2_with fail
  have e1 : (1 : Int) + (r : Int) % 4 = ((1 + r % 4 : Nat) : Int) := by omega
  rw [e1]
  generalize hN : 1 + r % 4 = N at *
  have hN1 : 1 ≤ N := by omega
  have hN4 : N ≤ 4 := by omega
  refine (s_new N u w hN1 (by omega) hu (by omega)).mono ?_
  rintro e w1 ⟨g, rfl, h'⟩
  have H1 := Lib.hid h'
  have HN := Lib.hid hN
  clear h' hN e1
  go_wp2_with fail
  go_loopw [11] (fun iv wr => ∃ k : Nat, k ≤ n ∧ k ≤ 150 ∧ iv = .int .i64 k ∧ ESt u k w wr g (eRun (eNew N u) (l.take k))) (fun iv _ => n - (intOf iv).toNat)
  case atStart => exact ⟨0, Nat.zero_le _, Nat.zero_le _, rfl, H1.out⟩
  case round =>
    obtain ⟨k, hk, hk2, rfl, hE⟩ := hrel
    have HE := Lib.hid hE
    by_cases hlt : k < n ∧ k < 150
    · obtain ⟨x, hx⟩ : ∃ x, l[k]? = some x := ⟨l[k]'(by rw [← Hn.out]; exact hlt.1), List.getElem?_eq_getElem _⟩
      obtain ⟨ga, off, rfl, c0, c1, c2, c3, c4, c5⟩ := (HL.out.fr hE.fr).get hx
      have h1 : (k : Int) < n := by omega
      have h2 : (k : Int) < 150 := by omega
      have h3 : ¬ (k : Int) < 0 := by omega
      have hxu := HO.out x (List.mem_of_getElem? hx)
      have Hx := Lib.hid (eRun_take (S := eNew N u) hx)
      have hd := hlt.1
      have hd2 := hlt.2
      clear hE hx hlt
      go_wp2_with fail
      refine (s_do HE.out (by omega) x hxu).mono ?_
      rintro e w2 ⟨rfl, h2'⟩
      have H2 := Lib.hid h2'
      clear h2'
      go_wp2_with fail
      go_roundw
      case rel => exact ⟨k + 1, hd, hd2, by go_num, by rw [Hx.out]; exact H2.out⟩
      case measure => simp [intOf]; omega
    · have hfin : l.take k = l.take 150 := by
        rcases Nat.lt_or_ge k 150 with h | h
        · have : k = n := by omega
          rw [List.take_of_length_le (by rw [← Hn.out]; omega), List.take_of_length_le (by rw [← Hn.out]; omega)]
        · have : k = 150 := by omega
          rw [this]
      have Hfin := Lib.hid hfin
      clear hfin hE
      by_cases hkn : k < n
      · have h1 : (k : Int) < n := by omega
        have h2 : ¬ (k : Int) < 150 := by omega
        clear hlt
        go_wp2_with fail
        refine bodyPost_ret (results_tmp2 rfl _ _ _) rfl ⟨g, by rw [show (1 : Int) + (r : Int) % 4 = (N : Int) from by have := HN.out; omega]; rfl, ?_⟩
        rw [eOpen, HN.out, ← Hfin.out]
        exact HE.out.mono hk2
      · have h1 : ¬ (k : Int) < n := by omega
        clear hlt
        go_wp2_with fail
        refine bodyPost_ret (results_tmp2 rfl _ _ _) rfl ⟨g, by rw [show (1 : Int) + (r : Int) % 4 = (N : Int) from by have := HN.out; omega]; rfl, ?_⟩
        rw [eOpen, HN.out, ← Hfin.out]
        exact HE.out.mono hk2
/-- k messages are delivered. -/
def eIter (again : Bool) (S : ES) (a b : Int) : Nat → ES
  | 0 => S
  | k + 1 => (eDeliver (eIter again S a b k) a b false again).2
theorem eTake_ms (S : ES) (a b : Int) (m : EM) (h : a ≠ b) : ((eTake S a b m).ln a b).ms = (S.ln a b).ms := by
  unfold eTake
  simp only []
  rw [ES.putL_other _ _ _ _ _ _ (.inl h)]
  simp only [ES.putA_ln, ES.putL_same]
theorem eDeliver_ms {S : ES} {a b : Int} (hp : pairB S.acc.length a b = true) {m : EM} {r : List EM} (hm : (S.ln a b).ms = m :: r) (again : Bool) : (eDeliver S a b false again).1 = true ∧ (((eDeliver S a b false again).2).ln a b).ms = (if again then r ++ [m] else r) := by
  have e : eDeliver S a b false again = (true, eTake (eNext S a b (if again then r ++ [m] else r)) a b m) := by unfold eDeliver; rw [if_neg (by rw [hp]; simp), hm]; rfl
  rw [e]
  refine ⟨rfl, ?_⟩
  show ((eTake _ a b m).ln a b).ms = _
  rw [eTake_ms _ _ _ _ (pairB_ne hp), eNext_ms]
theorem eIter_len (again : Bool) (S : ES) (a b : Int) : ∀ k, (eIter again S a b k).acc.length = S.acc.length
  | 0 => rfl
  | k + 1 => by rw [eIter, eDeliver_len, eIter_len again S a b k]
theorem eIter_inv {U : Int} {t : Nat} {S : ES} (h : Inv U t S) (again : Bool) (a b : Int) : ∀ k, Inv U t (eIter again S a b k)
  | 0 => h
  | k + 1 => eDeliver_inv (eIter_inv h again a b k) _ _ _ _
/-- The queue of the pair behind k deliveries without repetition. -/
theorem eIter_ms {S : ES} {a b : Int} (hp : pairB S.acc.length a b = true) : ∀ k, k ≤ (S.ln a b).ms.length → ((eIter false S a b k).ln a b).ms = (S.ln a b).ms.drop k
  | 0, _ => rfl
  | k + 1, h => by
    have ih := eIter_ms hp k (by omega)
    have hp' : pairB (eIter false S a b k).acc.length a b = true := by rw [eIter_len]; exact hp
    have hm : ((eIter false S a b k).ln a b).ms = (S.ln a b).ms[k]'(by omega) :: (S.ln a b).ms.drop (k + 1) := by rw [ih]; exact List.drop_eq_getElem_cons (by omega)
    exact (eDeliver_ms hp' hm false).2
/-- A queue without its messages. -/
def eEmpty (S : ES) (a b : Int) : ES := eIter false S a b (if pairB S.acc.length a b then (S.ln a b).ms.length else 0)
theorem eDeliver_end (S : ES) (a b : Int) : (eDeliver (eEmpty S a b) a b false false) = (false, eEmpty S a b) := by
  unfold eEmpty
  cases hp : pairB S.acc.length a b with
  | false => simp only [Bool.false_eq_true, if_false, eIter]; unfold eDeliver; rw [if_pos hp]
  | true =>
    simp only [if_true]
    have h1 := eIter_ms hp (S.ln a b).ms.length (Nat.le_refl _)
    rw [List.drop_length] at h1
    unfold eDeliver
    rw [if_neg (by rw [eIter_len, hp]; simp), h1]
theorem s_empty {U : Int} {t : Nat} {w0 w : World} {g : Nat} {S : ES} (h : ESt U t w0 w g S) (ht : t ≤ 1000000) (a b : Int) :
    Calls Try.prog 42 #[.pointer (some ⟨g, 0, none⟩), .int .i64 a, .int .i64 b] w fun e w' => e = .returned (.bool true) ∧ ESt U t w0 w' g (eEmpty S a b) := by
  obtain ⟨n, hn⟩ : ∃ n, n = (if pairB S.acc.length a b then (S.ln a b).ms.length else 0) := ⟨_, rfl⟩
  have hn100 : n ≤ 100 := by
    rw [hn]
    split
    · exact h.inv.sh.mq a b ‹_›
    · omega
  have H := Lib.hid h
  have Hn := Lib.hid hn
  clear h hn
  go_enter Try.func42, Try.ntmps42
  go_wp2_with fail
  go_loopw [7] (fun iv wr => ∃ k : Nat, k ≤ n ∧ iv = .int .i64 k ∧ ESt U t w0 wr g (eIter false S a b k)) (fun iv _ => n - (intOf iv).toNat)
  case atStart => exact ⟨0, Nat.zero_le _, rfl, H.out⟩
  case round =>
    obtain ⟨k, hk, rfl, hE⟩ := hrel
    have HE := Lib.hid hE
    clear hE
    have hkI : (k : Int) ≤ 100 := by omega
    by_cases hlt : k < n
    · have hd : (eDeliver (eIter false S a b k) a b false false).1 = true := by
        have hn := Hn.out
        have hp : pairB S.acc.length a b = true := by
          cases e : pairB S.acc.length a b with
          | true => rfl
          | false => rw [e] at hn; simp at hn; omega
        rw [hp] at hn
        simp only [if_true] at hn
        have h1 := eIter_ms hp k (by omega)
        have hm : ((eIter false S a b k).ln a b).ms = (S.ln a b).ms[k]'(by omega) :: (S.ln a b).ms.drop (k + 1) := by rw [h1]; exact List.drop_eq_getElem_cons (by omega)
        exact (eDeliver_ms (by rw [eIter_len]; exact hp) hm false).1
      have Hd := Lib.hid hd
      clear hd
      go_wp2_with fail
      refine (s_deliver HE.out ht a b false false).mono ?_
      rw [Hd.out]
      rintro e w2 ⟨rfl, h2⟩
      have H2 := Lib.hid h2
      clear h2
      go_wp2_with fail
      go_roundw
      case rel => exact ⟨k + 1, hlt, by go_num, H2.out⟩
      case measure => simp [intOf]; omega
    · have hkn : k = n := by omega
      subst hkn
      have hd := eDeliver_end S a b
      have he : eEmpty S a b = eIter false S a b k := by rw [eEmpty, ← Hn.out]
      rw [he] at hd
      have Hd := Lib.hid hd
      have He := Lib.hid he
      clear hd he
      go_wp2_with fail
      refine (s_deliver HE.out ht a b false false).mono ?_
      rw [Hd.out]
      rintro e w2 ⟨rfl, h2⟩
      have H2 := Lib.hid h2
      clear h2
      go_wp2_with fail
      go_ret
      exact ⟨rfl, by rw [He.out]; exact H2.out⟩
end Go.Proofs.Ytdjaofkbgkifkaa

/- NetOrder: the walk. -/
import Derived.Test.YtdgcimjpggjnjaaNhead
import Derived.Test.YtdgcimjpggjnjaaRow2
import Derived.Test.YtdgcimjpggjnjaaOpen
set_option linter.unusedVariables false
set_option linter.unusedSimpArgs false
namespace Go.Proofs.Ytdgcimjpggjnjaa
open Go.RowKit

/-- A slice reads as bools. -/
def RdB (w : World) (v : Value) (xs : List Bool) : Prop :=
  ∃ A n cap, v = .slice A n cap ∧ n = xs.length ∧ n ≤ 9007199254740992 ∧ (0 < n → ∃ g off, A = some ⟨g, off, none⟩ ∧ ∀ (j : Nat) (x : Bool), xs[j]? = some x → w.cell? ⟨g, off + j, none⟩ = some (.bool x))

theorem knows4 {f t : Int} (h1 : 0 ≤ f) (h2 : f < 4) (h3 : 0 ≤ t) (h4 : t < 4) (h : f ≠ t) : knowsB 4 f t = true := by
  simp only [knowsB, badB, h, ne_eq, not_false_eq_true, decide_true, Bool.true_and, Bool.and_eq_true, Bool.not_eq_true', Bool.or_eq_false_iff, decide_eq_false_iff_not]
  omega
/-- The order is kept. -/
structure OrdS (S : NS) (f t : Int) (gt : List ByteArray) (l : List ByteArray) : Prop where
  N : S.N = 4
  c : ∀ a b, S.c a b = false
  all : gt ++ S.q f t = l
theorem OrdS.send {S : NS} {f t : Int} {gt l : List ByteArray} (h : OrdS S f t gt l) (hk : knowsB 4 f t = true) (x : ByteArray) (hx : x.size ≤ 100) (hl : l.length < 100) :
    (nSend S f t x).1 = 0 ∧ OrdS (nSend S f t x).2 f t gt (l ++ [x]) ∧ (nSend S f t x).2.q f t ≠ [] := by
  have hq : (S.q f t).length < 100 := by have := congrArg List.length h.all; simp at this; omega
  have e : nSend S f t x = (0, { S with q := qset S.q f t (S.q f t ++ [x]) }) := by
    unfold nSend
    rw [h.N, if_neg (by rw [hk]; simp; omega), h.c, if_neg (by simp), if_neg (by omega)]
  rw [e]
  exact ⟨rfl, ⟨h.N, h.c, by simp [qset, ← h.all]⟩, by simp [qset]⟩
theorem OrdS.deliver {S : NS} {f t : Int} {gt l : List ByteArray} (h : OrdS S f t gt l) (hk : knowsB 4 f t = true) (hne : S.q f t ≠ []) :
    ∃ x, (nDeliver S f t false false).1 = (x, true) ∧ OrdS (nDeliver S f t false false).2 f t (gt ++ [x]) l := by
  obtain ⟨x, r, hq⟩ := List.exists_cons_of_ne_nil hne
  refine ⟨x, ?_⟩
  have e : nDeliver S f t false false = ((x, true), { S with q := qset S.q f t r }) := by
    unfold nDeliver
    rw [h.N, if_pos hk, hq]
    simp [← h.N]
  rw [e]
  refine ⟨rfl, h.N, h.c, ?_⟩
  simp only [qset, and_self, if_true]
  rw [← h.all, hq]
  simp
theorem OrdS.wait {S : NS} {f t : Int} {gt l : List ByteArray} (h : OrdS S f t gt l) (hk : knowsB 4 f t = true) : gt ++ nWait S f t = l := by
  unfold nWait waitL
  rw [h.N, if_pos hk]
  exact h.all

/-- The loop's relation. -/
def OrdRel (w1 : World) (B : Nat) (g : Nat) (f t : Int) (l : List ByteArray) (k : Nat) (v : Value) (wr : World) : Prop :=
  ∃ F S gt, NetS wr F g S ∧ QB S ∧ OrdS S f t gt (l.take k) ∧ (∀ k, F k → B ≤ k ∧ k < wr.heap.size) ∧ Row wr 1 v (strs gt) ∧ (∀ k, rowBlk v = some k → B ≤ k ∧ ¬ F k) ∧ gt.length ≤ k ∧ B ≤ wr.heap.size ∧ Fr None' w1 wr

theorem netOrder_short {l : List ByteArray} (ra rb : Nat) (vl vw : Value) (n : Nat) (A : Option Addr) (cap : Nat) (w : World) (hra : ra < 256) (hrb : rb < 256) (hv : vl = .slice A n cap) (hn : n ≤ 9007199254740992) (h : 90 < n ∨ ra % 4 = rb % 4) :
    Calls Try.prog 3 #[vl, .int .u8 ra, .int .u8 rb, vw] w fun e w' => e = .returned (.bool true) ∧ Fr None' w w' := by
  subst hv
  by_cases h1 : 90 < n
  · clear h
    go_enter Try.func3, Try.ntmps3
    go_wp2_with fail
    refine (head_any w).mono ?_
    rintro e w1 ⟨rfl, hf1⟩
    have Hf1 := Lib.hid hf1
    clear hf1
    go_wp2_with fail
    go_ret
    exact ⟨rfl, Hf1.out⟩
  · have h2 : (ra : Int) % 4 = (rb : Int) % 4 := by rcases h with h | h <;> omega
    have h1' : n ≤ 90 := by omega
    obtain ⟨x, hx⟩ : ∃ x, x = (rb : Int) % 4 := ⟨_, rfl⟩
    have hxx : (x == x) = true := by simp
    clear h h1
    rw [← hx] at h2
    go_enter Try.func3, Try.ntmps3
    go_wp2_with fail
    refine (head_any w).mono ?_
    rintro e w1 ⟨rfl, hf1⟩
    have Hf1 := Lib.hid hf1
    clear hf1
    go_wp2_with fail
    go_ret
    exact ⟨rfl, Hf1.out⟩

theorem netOrder_any {l : List ByteArray} {wh : List Bool} (ra rb : Nat) (vl vw : Value) (w : World) (hra : ra < 256) (hrb : rb < 256) (hl : RdS w vl l) (hw : RdB w vw wh) (h90 : l.length ≤ 90) (hne : ra % 4 ≠ rb % 4)
    (hm : ∀ x ∈ l, x.size ≤ 9223372036854775807) :
    Calls Try.prog 3 #[vl, .int .u8 ra, .int .u8 rb, vw] w fun e w' => e = .returned (.bool true) ∧ Fr None' w w' := by
  have f0 : (0 : Int) ≤ (ra : Int) % 4 := by omega
  have f4 : (ra : Int) % 4 < 4 := by omega
  have t0 : (0 : Int) ≤ (rb : Int) % 4 := by omega
  have t4 : (rb : Int) % 4 < 4 := by omega
  have hft : (ra : Int) % 4 ≠ (rb : Int) % 4 := by omega
  have hft' : (((ra : Int) % 4) == ((rb : Int) % 4)) = false := by rw [beq_eq_false_iff_ne]; exact hft
  have HK := Lib.hid (knows4 f0 f4 t0 t4 hft)
  have HL := Lib.hid hl
  have HW := Lib.hid hw
  have HM := Lib.hid hm
  obtain ⟨A, n, cap, rfl, hn, hnb, hA⟩ := hl
  obtain ⟨Aw, nw, capw, rfl, hnw, hnwb, hAw⟩ := hw
  have hn90 : n ≤ 90 := by omega
  have Hn := Lib.hid hn
  have Hnw := Lib.hid hnw
  have HA := Lib.hid hA
  have HAw := Lib.hid hAw
  clear hn hnw hA hAw hm hft hne h90
  go_enter Try.func3, Try.ntmps3
  go_wp2_with fail
  refine (head_any w).mono ?_
  rintro e w1 ⟨rfl, hf1⟩
  have Hf1 := Lib.hid hf1
  clear hf1
  go_wp2_with fail
  generalize (ra : Int) % 4 = f at *
  generalize (rb : Int) % 4 = t at *
  refine (s_new 4 w1 (by decide) (by decide)).mono ?_
  rintro e w2 ⟨g, rfl, hn2, hf2⟩
  have Hn2 := Lib.hid hn2
  have Hf2 := Lib.hid hf2
  clear hn2 hf2
  go_wp2_with fail
  go_loopw [14, 15] (fun v i wr => ∃ k : Nat, k ≤ n ∧ i = .int .i64 k ∧ OrdRel w1 w1.heap.size g f t l k v wr) (fun _ i _ => n - (intOf i).toNat)
  case atStart =>
    refine ⟨0, Nat.zero_le _, rfl, _, NS.new 4, [], Hn2.out, QB.new 4, ⟨rfl, fun _ _ => rfl, rfl⟩, ?_, Row.nil _ _ _, ?_, Nat.zero_le _, Hf2.out.size, Hf2.out⟩
    · intro k hk; rcases hk with hk | hk; exact hk.elim; exact hk
    · intro k hk; simp [rowBlk] at hk
  case round =>
    obtain ⟨k, hk, rfl, F, S, gt, hnet, hQ, hord, hF, hrow, hown, hgl, hB, hfr⟩ := hrel
    have Hnet := Lib.hid hnet
    have Hord := Lib.hid hord
    have HF := Lib.hid hF
    have Hrow := Lib.hid hrow
    have Hown := Lib.hid hown
    have Hfr := Lib.hid hfr
    have HQ := Lib.hid hQ
    have HF' : Hid (∀ k, wr.heap.size ≤ k → ¬ F k) := Lib.hid (fun k hk h => absurd (hF k h).2 (by omega))
    clear hnet hord hF hrow hown hfr hQ
    by_cases hlt : k < n
    · obtain ⟨x, hx⟩ : ∃ x, l[k]? = some x := ⟨_, List.getElem?_eq_getElem (by rw [← Hn.out]; exact hlt)⟩
      obtain ⟨gl, off, rfl, hc⟩ := HA.out (by omega)
      have c1 := (Hf1.out.trans0 Hfr.out).cell (hc k x hx) (fun h => h)
      have hxm : x.size ≤ 9223372036854775807 := HM.out x (List.mem_of_getElem? hx)
      have Hx := Lib.hid hx
      have hki : (k : Int) < (n : Int) := by omega
      have hk0 : (0 : Int) ≤ (k : Int) := by omega
      clear hx hc hk
      by_cases hx100 : 100 < x.size
      · go_wp2_with fail
        go_ret
        exact ⟨rfl, Hf1.out.trans0 Hfr.out⟩
      · have hx100' : x.size ≤ 100 := by omega
        clear hx100
        obtain ⟨e1, o1, ne1⟩ := Hord.out.send HK.out x hx100' (by rw [List.length_take]; omega)
        have hq1 := HQ.out.send f t x
        have E1 := Lib.hid e1
        have O1 := Lib.hid o1
        have NE1 := Lib.hid ne1
        have Q1 := Lib.hid hq1
        clear e1 o1 ne1 hq1
        go_wp2_with fail
        refine (s_send Hnet.out f t x hxm).mono ?_
        rw [E1.out]
        rintro e w4 ⟨rfl, hn4, hf4⟩
        have Hn4 := Lib.hid hn4
        have Hf4 := Lib.hid (Hfr.out.trans hf4 (fun i hi h => by have := (HF.out i h).1; omega))
        have Hf4' := Lib.hid hf4
        clear hn4 hf4
        by_cases hwk : wh[k]? = some true
        · have hkw : k < nw := by rw [Hnw.out]; exact (List.getElem?_eq_some_iff.1 hwk).1
          obtain ⟨gw, offw, rfl, hcw⟩ := HAw.out (by omega)
          have c2 := (Hf1.out.trans0 Hf4.out).cell (hcw k true hwk) (fun h => h)
          have hkwi : (k : Int) < (nw : Int) := by omega
          clear hcw hwk
          obtain ⟨y, ey, oy⟩ := O1.out.deliver HK.out NE1.out
          have EY := Lib.hid ey
          have OY := Lib.hid oy
          have QY := Lib.hid (Q1.out.deliver f t false false)
          clear ey oy
          have hF4 : Hid (∀ k, w4.heap.size ≤ k → ¬ Ext F wr w4 k) := Lib.hid (fun k hk h => by
            rcases h with h | h
            · exact HF'.out k (Nat.le_trans Hf4'.out.size hk) h
            · omega)
          go_wp2_with fail
          refine (s_deliver Hn4.out hF4.out Q1.out f t false false).mono ?_
          rw [EY.out]
          rintro e w5 ⟨rfl, hn5, hf5⟩
          have Hn5 := Lib.hid hn5
          have Hf5 := Lib.hid hf5
          clear hn5 hf5
          have hlow4 : ∀ i, i < w1.heap.size → ¬ Ext F wr w4 i := fun i hi h => by
            rcases h with h | h
            · have := (HF.out i h).1; omega
            · have := h.1; omega
          have HL4 := Lib.hid hlow4
          clear hlow4
          have hrow5 : Row (w5.alloc (.cells #[.string y] 9)) 1 u14 (strs gt) := by
            have h4 := Hrow.out.kept (w' := w4) (fun j hj => Hf4'.out.block j (Hrow.out.lt hj) (Hown.out j hj).2)
            have h5 := h4.kept (w' := w5) (fun j hj => Hf5.out.block j (h4.lt hj) (fun h => by
              rcases h with h | h
              · exact (Hown.out j hj).2 h
              · have := Hrow.out.lt hj; omega))
            exact h5.kept (fun j hj => Below.heap_alloc _ _ _ (h5.lt hj))
          have hrd5 : ReadsAs (w5.alloc (.cells #[.string y] 9)) (some ⟨w5.heap.size, 0, none⟩) [.string y] := by
            intro j u hj
            refine ⟨_, rfl, ?_⟩
            have : j = 0 := by cases j with | zero => rfl | succ j => simp at hj
            subst this
            simp at hj
            subst hj
            simp [Addr.add]
          have hone : ∀ u ∈ [Value.string y], u.oneCell' = true := by intro u hu; simp at hu; subst hu; rfl
          have hgl' : gt.length < 200 := by omega
          have Hrow5 := Lib.hid hrow5
          have Hrd5 := Lib.hid hrd5
          have Hone := Lib.hid hone
          clear hrow5 hrd5 hone
          go_wp2_with (at_builtin; refine wpList_append_row _ rfl _ _ 22 9 rfl (.string ⟨#[]⟩) 1 16 Try.underlying22 info9 rfl (by decide) u14 (strs gt) rfl Hrow5.out (some ⟨w5.heap.size, 0, none⟩) 1 1 [.string y] rfl rfl Hrd5.out Hone.out ?h4 ?h5 ?_)
          case h4 => rw [strs_length]; simp; omega
          case h5 => rw [strs_length]; simp; omega
          intro v6 w6 hr6 hg6 hb6
          have Hr6 := Lib.hid hr6
          have Hg6 := Lib.hid hg6
          have Hb6 := Lib.hid hb6
          clear hr6 hg6 hb6
          go_wp2_with fail
          go_roundw
          case measure => simp [intOf]; omega
          case rel =>
            have s5 : wr.heap.size ≤ w5.heap.size := Nat.le_trans Hf4'.out.size Hf5.out.size
            have s6 : w5.heap.size < w6.heap.size := by have := Hg6.out.size; simp at this; omega
            have hG : ∀ j, Ext (Ext F wr w4) w4 w5 j → w1.heap.size ≤ j ∧ j < w5.heap.size := fun j hj => by
              rcases hj with (hj | hj) | hj
              · exact ⟨(HF.out j hj).1, Nat.lt_of_lt_of_le (HF.out j hj).2 s5⟩
              · exact ⟨Nat.le_trans hB hj.1, Nat.lt_of_lt_of_le hj.2 Hf5.out.size⟩
              · exact ⟨Nat.le_trans hB (Nat.le_trans Hf4'.out.size hj.1), hj.2⟩
            have hnG : ∀ j, rowBlk u14 = some j → ¬ Ext (Ext F wr w4) w4 w5 j := fun j hj h => by
              have h1 := Hrow.out.lt hj
              rcases h with (h | h) | h
              · exact (Hown.out j hj).2 h
              · omega
              · have := Hf4'.out.size; omega
            have hf6 : Fr (fun j => rowBlk u14 = some j) w5 w6 := (Fr.refl _ w5).alloc _ |>.grown Hg6.out (fun j hj => .inl hj)
            refine ⟨k + 1, by omega, by go_num, Ext (Ext F wr w4) w4 w5, _, gt ++ [y], Hn5.out.fr hf6 (fun j hj h => hnG j h hj), QY.out, ?_, ?_, ?_, ?_, ?_, ?_, ?_⟩
            · have := OY.out
              rw [List.take_add_one, Hx.out]
              exact this
            · intro j hj
              exact ⟨(hG j hj).1, Nat.lt_trans (hG j hj).2 s6⟩
            · simpa [strs] using Hr6.out
            · intro j hj
              rcases Hb6.out with h | h
              · rw [h] at hj; exact ⟨(Hown.out j hj).1, hnG j hj⟩
              · rw [h] at hj
                simp at hj
                exact ⟨by omega, fun h => by have := (hG j h).2; omega⟩
            · simp; omega
            · omega
            · have h5 : Fr None' w1 w5 := Hf4.out.trans Hf5.out (fun i hi h => HL4.out i hi h)
              exact h5.trans hf6 (fun i hi h => by have := (Hown.out i h).1; omega)
        · have hwk' : ¬ (k < nw ∧ wh[k]? = some true) := fun h => hwk h.2
          have Hwk := Lib.hid hwk
          have hrow4 : Row w4 1 u14 (strs gt) := Hrow.out.kept (w' := w4) (fun j hj => Hf4'.out.block j (Hrow.out.lt hj) (Hown.out j hj).2)
          have hF4 : ∀ j, Ext F wr w4 j → w1.heap.size ≤ j ∧ j < w4.heap.size := fun j hj => by
            rcases hj with hj | hj
            · exact ⟨(HF.out j hj).1, Nat.lt_of_lt_of_le (HF.out j hj).2 Hf4'.out.size⟩
            · exact ⟨Nat.le_trans hB hj.1, hj.2⟩
          have hown4 : ∀ j, rowBlk u14 = some j → w1.heap.size ≤ j ∧ ¬ Ext F wr w4 j := fun j hj => ⟨(Hown.out j hj).1, fun h => by
            rcases h with h | h
            · exact (Hown.out j hj).2 h
            · have := Hrow.out.lt hj; omega⟩
          have hB4 : w1.heap.size ≤ w4.heap.size := Nat.le_trans hB Hf4'.out.size
          have hrel : OrdRel w1 w1.heap.size g f t l (k + 1) u14 w4 := ⟨Ext F wr w4, _, gt, Hn4.out, Q1.out, by rw [List.take_add_one, Hx.out]; exact O1.out, hF4, hrow4, hown4, by omega, hB4, Hf4.out⟩
          have Hrel := Lib.hid hrel
          clear hrel hwk' hrow4 hF4 hown4
          by_cases hkw : k < nw
          · obtain ⟨bw, hbw⟩ : ∃ x, wh[k]? = some x := ⟨_, List.getElem?_eq_getElem (by rw [← Hnw.out]; exact hkw)⟩
            have hbf : bw = false := by
              cases bw with
              | false => rfl
              | true => exact absurd hbw Hwk.out
            subst hbf
            obtain ⟨gw, offw, rfl, hcw⟩ := HAw.out (by omega)
            have c2 := (Hf1.out.trans0 Hf4.out).cell (hcw k false hbw) (fun h => h)
            have hkwi : (k : Int) < (nw : Int) := by omega
            clear hcw hbw hwk
            go_wp2_with fail
            go_roundw
            case rel => exact ⟨k + 1, by omega, by go_num, Hrel.out⟩
            case measure => simp [intOf]; omega
          · have hkwi : ¬ (k : Int) < (nw : Int) := by omega
            clear hwk
            go_wp2_with fail
            go_roundw
            case rel => exact ⟨k + 1, by omega, by go_num, Hrel.out⟩
            case measure => simp [intOf]; omega
    · obtain rfl : k = n := by omega
      go_wp2_with fail
      refine (s_wait Hnet.out HQ.out f t).mono ?_
      rintro e w4 ⟨v, rfl, hr4, hk4, hf4⟩
      obtain ⟨A4, m4, c4, rfl, hl4⟩ := hr4.form
      have hw := Hord.out.wait HK.out
      rw [List.take_of_length_le (by rw [← Hn.out]; omega)] at hw
      have hm4 : (nWait S f t).length = m4 := by rw [strs_length] at hl4; omega
      have hml : m4 ≤ 90 := by
        have := congrArg List.length hw
        simp only [List.length_append] at this
        have := Hn.out
        omega
      have Hw := Lib.hid hw
      have Hl4 := Lib.hid hl4
      have Hr4 := Lib.hid hr4
      have Hrow4 := Lib.hid (Hrow.out.fr hf4 (fun _ _ h => h))
      have Hf4 := Lib.hid hf4
      have Hm4 := Lib.hid hm4
      clear hw hl4 hr4 hf4 hk4 hm4
      go_wp2_with (at_builtin; refine wpList_append_row_g _ rfl _ _ 22 9 rfl (.string ⟨#[]⟩) 1 16 Try.underlying22 info9 rfl (by decide) u14 (strs gt) rfl Hrow4.out A4 m4 c4 (strs (nWait S f t)) rfl Hl4.out Hr4.out.reads (strs_one _) ?h4 ?h5 ?_)
      case h4 => rw [strs_length, strs_length, Hm4.out]; omega
      case h5 => rw [strs_length, strs_length, Hm4.out]; omega
      intro v6 w6 hr6 hg6 hb6
      have hr6' : Row w6 1 v6 (strs l) := by
        have := Hw.out
        have e : strs gt ++ strs (nWait S f t) = strs l := by rw [← this]; simp [strs]
        rw [← e]; exact hr6
      have hf6 : Fr (fun j => rowBlk u14 = some j) w4 w6 := (Fr.refl _ w4).grown hg6 (fun j hj => .inl hj)
      have hf16 : Fr None' w1 w6 := (Hfr.out.trans0 Hf4.out).trans hf6 (fun i hi h => by have := (Hown.out i h).1; omega)
      have hrl : RdS w6 (.slice A k cap) l := HL.out.fr0 (Hf1.out.trans0 hf16)
      have hrv : RdS w6 v6 l := hr6'.rdS (by have := Hn.out; omega)
      have Hf16 := Lib.hid hf16
      have Hrl := Lib.hid hrl
      have Hrv := Lib.hid hrv
      clear hr6 hg6 hb6 hr6' hf6 hf16 hrl hrv
      go_wp2_with fail
      refine (texts_any _ _ _ Hrv.out Hrl.out).mono ?_
      rw [show decide (l = l) = true from by simp]
      rintro e w7 ⟨rfl, hf7⟩
      have Hf7 := Lib.hid hf7
      clear hf7
      go_wp2_with fail
      go_ret
      exact ⟨rfl, (Hf1.out.trans0 Hf16.out).trans0 Hf7.out⟩

open Go.ChangeShapes Go.WideShapes in
theorem netOrder_plain {l : List ByteArray} {wh : List Bool} (w : World) (vl vw : Value) (a b : Int) (ha : (Lit.int .u8 a).wf = true) (hb : (Lit.int .u8 b).wf = true) (hl : RdS w vl l) (hw : RdB w vw wh) (hm : ∀ x ∈ l, x.size ≤ 9223372036854775807) :
    Calls Try.prog 3 #[vl, .int .u8 a, .int .u8 b, vw] w fun e w' => e = .returned (.bool true) ∧ Below w.heap.size w w' := by
  have hb1 : 0 ≤ a ∧ a ≤ 255 := by simp [Lit.wf, IntKind.min, IntKind.max, IntKind.signed, IntKind.bits] at ha; omega
  have hb2 : 0 ≤ b ∧ b ≤ 255 := by simp [Lit.wf, IntKind.min, IntKind.max, IntKind.signed, IntKind.bits] at hb; omega
  obtain ⟨ra, rfl⟩ := Int.eq_ofNat_of_zero_le hb1.1
  obtain ⟨rb, rfl⟩ := Int.eq_ofNat_of_zero_le hb2.1
  have fin : ∀ e w', e = Ending.returned (.bool true) ∧ Fr None' w w' → e = .returned (.bool true) ∧ Below w.heap.size w w' := fun e w' ⟨he, hf⟩ => ⟨he, hf.below (fun _ h => h.elim) (Nat.le_refl _)⟩
  obtain ⟨A, n, cap, hv, hn, hnb, _⟩ := id hl
  by_cases h : 90 < n ∨ ra % 4 = rb % 4
  · exact (netOrder_short (l := l) ra rb vl vw n A cap w (by omega) (by omega) hv hnb h).mono fin
  · exact (netOrder_any ra rb vl vw w (by omega) (by omega) hl hw (by omega) (by omega) hm).mono fin

theorem RdL.rdS {w : World} {v : Value} {xs : List ByteArray} (h : RdL (fun s : ByteArray => [Value.string s]) 1 w v xs) : RdS w v xs := by
  obtain ⟨A, n, cap, rfl, hn, hl, h0⟩ := h
  refine ⟨A, n, cap, rfl, hn, by omega, fun hp => ?_⟩
  obtain ⟨g, off, rfl, hc⟩ := h0 hp
  refine ⟨g, off, rfl, fun j x hj => ?_⟩
  have := hc j x hj 0 _ rfl
  simpa using this
theorem RdL.rdB {w : World} {v : Value} {xs : List Bool} (h : RdL (fun s : Bool => [Value.bool s]) 1 w v xs) : RdB w v xs := by
  obtain ⟨A, n, cap, rfl, hn, hl, h0⟩ := h
  refine ⟨A, n, cap, rfl, hn, by omega, fun hp => ?_⟩
  obtain ⟨g, off, rfl, hc⟩ := h0 hp
  refine ⟨g, off, rfl, fun j x hj => ?_⟩
  have := hc j x hj 0 _ rfl
  simpa using this
theorem netOrder_walk {H : Type} {enc : TypeId × Value → H} (W : World) {b0 : Nat} {v0 v3 : Value} {d0 d3 : DataW H} {p0 p3 : List MemPlace}
    (o0 : Value.okWide Try.prog W .any b0 22 v0) (k0 : DataW.Trod enc Try.prog W 0 (fun _ => true) true 22 v0 d0 p0) (z0 : (d0.weights Try.prog 22).all (· ≤ reachBytes) = true)
    (a1 : Int) (w1 : (Lit.int .u8 a1).wf = true) (a2 : Int) (w2 : (Lit.int .u8 a2).wf = true)
    (o3 : Value.okWide Try.prog W .any b0 23 v3) (k3 : DataW.Trod enc Try.prog W 0 (fun _ => true) true 23 v3 d3 p3) (z3 : (d3.weights Try.prog 23).all (· ≤ reachBytes) = true) :
    Calls Try.prog 3 #[v0, .int .u8 a1, .int .u8 a2, v3] W fun e w' => e = .returned (.bool true) ∧ Below W.heap.size W w' := by
  obtain ⟨l, hl, hm⟩ := open_list 1 16 (fun s : ByteArray => [Value.string s]) (fun s => s.size ≤ maxLen) Try.underlying22 (by kernel_rfl) (by decide) (by kernel_rfl) (by decide) (elem_str Try.underlying9) o0 k0 z0
  obtain ⟨wh, hw, _⟩ := open_list 1 1 (fun s : Bool => [Value.bool s]) (fun _ => True) Try.underlying23 (by kernel_rfl) (by decide) (by kernel_rfl) (by decide) (elem_bool Try.underlying4) o3 k3 z3
  exact netOrder_plain W v0 v3 a1 a2 w1 w2 hl.rdS hw.rdB (fun x hx => by have := hm x hx; simpa [maxLen] using this)
end Go.Proofs.Ytdgcimjpggjnjaa

/- Package escrow: Deliver of a message that arrives: the walk. -/
import Derived.Test.YtdjaofkbgkifkaaE15
set_option linter.unusedVariables false
set_option linter.unusedSimpArgs false
namespace Go.Proofs.Ytdjaofkbgkifkaa
open Go.RowKit

/-- A round of the loop: the facts of the world in which it begins. -/
theorem loop_facts {U : Int} {t : Nat} {w wQ wr : World} {F : Nat → Prop} {g : Nat} {S1 : ES} {a : Int} {r : Nat} {m : EM} {mb : Nat} {L : List WE} {lk : Nat} {lb : Int → Int → Nat} {bm : Nat} {A1 : Option Addr} {n1 c1 : Nat} {ρ : Nat → Role} {vT vM : Int → Int → Value} {mz : Int → Int → List (Value × EM)} {ga off n cap : Nat}
    (hH : Half w wQ F g S1 a r m (.slice (some ⟨ga, off, none⟩) n cap) mb L lk lb bm (.slice A1 n1 c1) ρ vT vM mz) (hI : Inv U t S1) (hp : pairB S1.acc.length a r = true) (hbk : rowBlk (.slice (some ⟨ga, off, none⟩) n cap) = some ga) (hm : MsgOK S1 a r m) {i : Nat}
    (h : EscAt wr ρ g (eRecv S1 a r m i) (.slice (some ⟨ga, off, none⟩) n cap) mb L lk lb vT vM mz) (hf : Fr (fun k => ρ k = .acc ∨ ρ k = .line a r) wQ wr) :
    wr.heap[bm]? = some (.cells #[.slice A1 n1 c1, .int .i64 (m.l : Int), .int .i64 (m.c : Int), .bool m.r] 137) ∧ n1 = m.l - m.f ∧
      (i < n1 → ∃ gi offi x, A1 = some ⟨gi, offi, none⟩ ∧ (S1.ln a r).all[m.f + i]? = some x ∧ wr.cell? ⟨gi, offi + i, none⟩ = some (.int .i64 x)) ∧
      wr.cell? ⟨ga, off + r * 3, none⟩ = some (.int .i64 ((eRecv S1 a r m i).ac r).u) ∧ wr.cell? ⟨ga, off + r * 3 + 2, none⟩ = some (.bool (S1.ac r).r) ∧ (∀ o, wr.frozen? ⟨ga, o, none⟩ = false) := by
  have hp2 : pairB (eRecv S1 a r m i).acc.length a r = true := by rw [eRecv_len]; exact hp
  have hb2 := pairB_right hp2
  have hx := ES.ac_get hb2
  rw [Int.toNat_natCast] at hx
  obtain ⟨ga', off', cap', he, _, u0, _, u2, ufr⟩ := acc_get h.acc (by rw [eRecv_len]; have := hI.sh.n8; omega) hx
  cases he
  obtain ⟨m1, m2, m3, m4, m5⟩ := hm
  have hlen : (m.tr (S1.ln a r).all).length = m.l - m.f := by simp only [EM.tr, List.length_drop, List.length_take]; omega
  have hrd := hH.rd.keep (w' := wr) hf.size (fun k hk hi => hf.block k hk (fun e => by rcases e with e | e <;> (rw [hi] at e; cases e)))
  have hbm := hf.heap hH.box (fun e => by have := hH.oth; rcases e with e | e <;> (rw [this] at e; cases e))
  obtain ⟨A', n', c', he', hn', h0⟩ := hrd
  cases he'
  refine ⟨hbm, by rw [hn', hlen], fun hi => ?_, u0, ?_, ufr⟩
  · obtain ⟨gi, offi, rfl, _, _, hc⟩ := h0 (by omega)
    have hj : i < (m.tr (S1.ln a r).all).length := by omega
    refine ⟨gi, offi, (m.tr (S1.ln a r).all)[i], rfl, ?_, hc i _ (List.getElem?_eq_getElem hj)⟩
    rw [← List.getElem?_eq_getElem hj]
    simp only [EM.tr]
    rw [List.getElem?_drop, List.getElem?_take, if_pos (by rw [hlen] at hj; omega)]
  · rw [u2, eRecv_ac (pairB_right hp)]
theorem loop_nums {mf ml n1 i all t : Nat} (h1 : n1 = ml - mf) (h2 : mf ≤ ml) (h3 : ml ≤ all) (h4 : all ≤ t) (h5 : t ≤ 1000000) (hi : i < n1) :
    wrap64 ((ml : Int) - n1) = (mf : Int) ∧ wrap64 ((mf : Int) + 1) = (mf : Int) + 1 ∧ wrap64 ((mf : Int) + 1 + i) = (mf : Int) + 1 + i ∧ wrap64 ((i : Int) + 1) = (i : Int) + 1 := by
  refine ⟨?_, w64 (by omega) (by omega), w64 (by omega) (by omega), w64 (by omega) (by omega)⟩
  rw [w64 (by omega) (by omega)]; omega
theorem loop_measure {n i : Nat} (h : wrap64 ((i : Int) + 1) = (i : Int) + 1) (hi : i < n) : n - (intOf (.int .i64 (wrap64 ((i : Int) + 1)))).toNat < n - (intOf (.int .i64 (i : Int))).toNat := by
  rw [h]
  have e1 : (intOf (.int .i64 ((i : Int) + 1))).toNat = i + 1 := by show ((i : Int) + 1).toNat = i + 1; omega
  have e2 : (intOf (.int .i64 (i : Int))).toNat = i := by show ((i : Int)).toNat = i; omega
  rw [e1, e2]; omega
theorem half_loop {w wQ wr : World} {F : Nat → Prop} {g : Nat} {S1 : ES} {a : Int} {r : Nat} {m : EM} {vA : Value} {mb : Nat} {L : List WE} {lk : Nat} {lb : Int → Int → Nat} {bm : Nat} {v1 : Value} {ρ : Nat → Role} {vT vM : Int → Int → Value} {mz : Int → Int → List (Value × EM)}
    (hH : Half w wQ F g S1 a r m vA mb L lk lb bm v1 ρ vT vM mz) (hf : Fr (fun k => ρ k = .acc ∨ ρ k = .line a r) wQ wr) : (∀ k, ρ k ≠ .other → Ext F w wr k) ∧ Fr F w wr := by
  refine ⟨fun k hk => ?_, hH.fr.trans hf (fun i hi e => ?_)⟩
  · rcases hH.foot k hk with h | h
    · exact .inl h
    · exact .inr ⟨h.1, Nat.lt_of_lt_of_le h.2 hf.size⟩
  · have hx := hH.foot i (by rcases e with e | e <;> (rw [e]; simp))
    rcases hx with h | h
    · exact h
    · omega
theorem eRecv_back {S1 : ES} {a : Int} {r : Nat} (hp : pairB S1.acc.length a r = true) (m : EM) (i : Nat) : (eRecv S1 a r m i).ln r a = S1.ln r a := by
  simp only [eRecv, ES.putA_ln]; exact ES.putL_other _ _ _ _ _ _ (.inl (pairB_ne hp).symm)
theorem arrive_conf {w wQ wr w5 : World} {F : Nat → Prop} {g : Nat} {S1 : ES} {a : Int} {r : Nat} {m : EM} {vA : Value} {mb : Nat} {L : List WE} {lk : Nat} {lb : Int → Int → Nat} {bm : Nat} {v1 v5 : Value} {ρ : Nat → Role} {vT vM : Int → Int → Value} {mz : Int → Int → List (Value × EM)} {i : Nat}
    (hH : Half w wQ F g S1 a r m vA mb L lk lb bm v1 ρ vT vM mz) (hcut : ∀ k, wQ.heap.size ≤ k → ρ k = .other) (hp : pairB S1.acc.length a r = true) (hf : Fr (fun k => ρ k = .acc ∨ ρ k = .line a r) wQ wr)
    (h : EscAt wr ρ g (eRecv S1 a r m i) vA mb L lk lb vT vM mz) (hf5 : Fr None' wr w5) (hr5 : Row w5 1 v5 (((S1.ln r a).all.drop m.c).flatMap icell)) (hb5 : ∀ k, rowBlk v5 = some k → wr.heap.size ≤ k ∧ k < w5.heap.size) :
    ∃ ρ1 vT1, EscAt (w5.setCell ⟨lb r a, 0, none⟩ v5) ρ1 g ((eRecv S1 a r m i).putL r a { S1.ln r a with conf := m.c }) vA mb L lk lb vT1 vM mz ∧ (∀ k, ρ1 k ≠ .other → Ext F w (w5.setCell ⟨lb r a, 0, none⟩ v5) k) ∧ Fr F w (w5.setCell ⟨lb r a, 0, none⟩ v5) := by
  obtain ⟨hfoot, hfr⟩ := half_loop hH hf
  have hln := eRecv_back hp m i
  have hp3 : pairB (eRecv S1 a r m i).acc.length r a = true := by rw [eRecv_len]; exact pairB_swap hp
  obtain ⟨ρ1, E1, r1, r4, f6⟩ := h.conf (wd := wr) (c := m.c) (fun k hk => hcut k (Nat.le_trans hf.size hk)) hp3 hf5 (by rw [hln]; exact hr5) hb5
  rw [hln] at E1
  refine ⟨ρ1, _, E1, fun k hk => ?_, hfr.trans f6 (fun i hi e => ?_)⟩
  · rw [Ext, setCell_size]
    rcases Nat.lt_or_ge k wr.heap.size with h1 | h1
    · rw [r1 k h1] at hk
      rcases hfoot k hk with h2 | h2
      · exact .inl h2
      · exact .inr ⟨h2.1, Nat.lt_of_lt_of_le h2.2 hf5.size⟩
    · rcases Nat.lt_or_ge k w5.heap.size with h2 | h2
      · exact .inr ⟨Nat.le_trans hfr.size h1, h2⟩
      · rw [r4 k h2] at hk; exact absurd rfl hk
  · have hx := hfoot i (by rw [e, h.rl r a hp3]; simp)
    rcases hx with h | h
    · exact h
    · omega
theorem arrive_same {w wQ wr : World} {F : Nat → Prop} {g : Nat} {S1 : ES} {a : Int} {r : Nat} {m : EM} {vA : Value} {mb : Nat} {L : List WE} {lk : Nat} {lb : Int → Int → Nat} {bm : Nat} {v1 : Value} {ρ : Nat → Role} {vT vM : Int → Int → Value} {mz : Int → Int → List (Value × EM)} {i : Nat}
    (hH : Half w wQ F g S1 a r m vA mb L lk lb bm v1 ρ vT vM mz) (hp : pairB S1.acc.length a r = true) (hf : Fr (fun k => ρ k = .acc ∨ ρ k = .line a r) wQ wr) (h : EscAt wr ρ g (eRecv S1 a r m i) vA mb L lk lb vT vM mz) (wd : World) (hd : Fr None' wr wd) :
    EscAt wd ρ g ((eRecv S1 a r m i).putL r a { S1.ln r a with conf := (S1.ln r a).conf }) vA mb L lk lb vT vM mz ∧ (∀ k, ρ k ≠ .other → Ext F w wd k) ∧ Fr F w wd := by
  obtain ⟨hfoot, hfr⟩ := half_loop hH hf
  have hln := eRecv_back hp m i
  have e : (eRecv S1 a r m i).putL r a { S1.ln r a with conf := (S1.ln r a).conf } = eRecv S1 a r m i := by
    have := ES.putL_self (eRecv S1 a r m i) r a
    rw [hln] at this
    exact this
  rw [e]
  refine ⟨h.fr hd (fun _ _ h => h), fun k hk => ?_, hfr.trans0 hd⟩
  rcases hfoot k hk with h2 | h2
  · exact .inl h2
  · exact .inr ⟨h2.1, Nat.lt_of_lt_of_le h2.2 hd.size⟩
theorem frz_heap {w : World} {size g off n cap : Nat} {xs : List Value} (h : Row w size (.slice (some ⟨g, off, none⟩) n cap) xs) (hb : rowBlk (.slice (some ⟨g, off, none⟩) n cap) = some g) : ∃ cur T, w.heap[g]? = some (.cells cur T (0, 0)) := by
  obtain ⟨A', n', cap', he, h1, h2, h3, h4⟩ := h
  cases he
  rcases h4 with rfl | ⟨g', off', cur, T, he, h5, _⟩
  · rw [rowBlk_zero] at hb; cases hb
  · cases he; exact ⟨cur, T, h5⟩

set_option maxHeartbeats 8000000 in
set_option maxRecDepth 100000 in
theorem deliver_do_once {U : Int} {t : Nat} {w : World} {F : Nat → Prop} {ρ : Nat → Role} {g : Nat} {S : ES} {vA : Value} {mb : Nat} {L : List WE} {lk : Nat} {lb : Int → Int → Nat} {vT vM : Int → Int → Value} {mz : Int → Int → List (Value × EM)}
    (h : EscAt w ρ g S vA mb L lk lb vT vM mz) (hF : ∀ k, ρ k ≠ .other → F k) (hcut : ∀ k, w.heap.size ≤ k → ρ k = .other) (hU : U ≤ 1000000000) (hI : Inv U t S) (ht : t ≤ 1000000) (a b : Int) (hp : pairB S.acc.length a b = true) (m : EM) (q : List EM) (hm : (S.ln a b).ms = m :: q) :
    Calls Try.prog 29 #[.pointer (some ⟨g, 0, none⟩), .int .i64 a, .int .i64 b, .bool false, .bool false] w (EPost w F g (.bool true) (eTake (eNext S a b q) a b m)) := by
  have H := Lib.hid (line_at h a b hp)
  have H' := Lib.hid (line_at h b a (pairB_swap hp))
  obtain ⟨A1, n1, c1, zs, g0, off0, n0, cap0, hz, hq, hv, hb, h1, hrd⟩ := h.first hp hm
  have hl := h.line a b hp
  have hs := h.ms a b hp
  rw [hv] at hl hs
  rw [hz] at hs
  have hne : g0 ≠ lb a b := by
    intro e
    have h2 := h.rs a b hp g0 hb
    rw [e, h.rl a b hp] at h2; cases h2
  have hok := hI.sh.ok hp
  have hql : q.length ≤ 99 := by have := hok.mq; rw [hm] at this; simp only [List.length_cons] at this; omega
  have hmo : MsgOK S a b m := hok.mm m (by rw [hm]; simp)
  obtain ⟨S1, hS1⟩ : ∃ S1, S1 = eNext S a b q := ⟨_, rfl⟩
  have hI1 : Inv U t S1 := by
    rw [hS1]
    refine eNext_inv hI hp _ (by omega) (fun m' hm' => ?_)
    rw [hm]
    simp [hm']
  have hmo1 : MsgOK S1 a b m := by
    rw [hS1]
    simp only [MsgOK, eNext, ES.putL_same, ES.putL_other _ _ _ _ _ _ (.inl (pairB_ne hp).symm)]
    exact hmo
  have hp1 : pairB S1.acc.length a b = true := by rw [hS1]; exact hp
  rw [← hS1]
  obtain ⟨r, y, rfl, hy⟩ := isB_get (pairB_right hp)
  obtain ⟨ga, off, acap, rfl, hbk, _, _, _, _⟩ := acc_get h.acc (by have := hI.sh.n8; omega) hy
  have hr : r < S.acc.length := (List.getElem?_eq_some_iff.1 hy).1
  have HT := Lib.hid (take_ok hl hs h1 hne)
  have HA := Lib.hid (fun w2 x y z => half_take (w2 := w2) h hF hcut hp hz hq hv hb hrd x y z)
  have Hp := Lib.hid hp
  have Hp1 := Lib.hid hp1
  have Hql := Lib.hid hql
  have HI := Lib.hid hI1
  have Hmo := Lib.hid hmo1
  have HS := Lib.hid hS1
  have Hbk := Lib.hid hbk
  have Hr := Lib.hid hr
  have HU := Lib.hid hU
  have Ht := Lib.hid ht
  clear h hF hcut hI hp hm hz hq hv hb h1 hrd hl hs hne hok hql hmo hI1 hmo1 hp1 hS1 hbk hr hy hU ht
  go_enter Try.func29, Try.ntmps29
  go_wp2_with fail
  refine H.out.mono ?_
  rintro e w' ⟨rfl, rfl⟩
  go_wp2_with fail
  refine H'.out.mono ?_
  rintro e w' ⟨rfl, rfl⟩
  go_wp2_with fail
  refine HT.out.mono ?_
  rintro e w2 ⟨rfl, hr2, hl2, hf2⟩
  obtain ⟨ρ1, hH, hc1⟩ := HA.out w2 hr2 hl2 hf2
  have HH := Lib.hid hH
  have Hc1 := Lib.hid hc1
  clear hr2 hl2 hf2 HA HT hH hc1 H H'
  have hcc : ∀ k, (w2.alloc (.cells #[.slice A1 n1 c1, .int .i64 m.l, .int .i64 m.c, .bool m.r] 137)).heap.size ≤ k → ρ1 k = .other := fun k hk => Hc1.out k (by simp at hk; omega)
  have Hc := Lib.hid hcc
  clear hcc Hc1
  go_wp2_with fail
  generalize hbm : w2.heap.size = bm at *
  generalize w2.alloc (.cells #[.slice A1 n1 c1, .int .i64 m.l, .int .i64 m.c, .bool m.r] 137) = wQ at *
  rw [← HS.out] at HH
  -- behind the queue's part
  have HX : ∃ ρq vq zq, Half w' wQ F g S1 a r m (.slice (some ⟨ga, off, none⟩) S.acc.length acap) mb L lk lb bm (.slice A1 n1 c1) ρq vT vq zq ∧ (∀ k, wQ.heap.size ≤ k → ρq k = .other) := ⟨_, _, _, HH.out, Hc.out⟩
  obtain ⟨ρq, vq, zq, hHq, hcq⟩ := HX
  have HQ := Lib.hid hHq
  have HC := Lib.hid hcq
  clear HH Hc hHq hcq
  refine (at_yes HQ.out.at_.cells.1 r Hr.out).mono ?_
  rintro e wq ⟨rfl, rfl⟩
  obtain ⟨x0, x1, x2, x3, _⟩ := four_cells HQ.out.box
  go_wp2_with fail
  go_loopw [52] (fun iv wr => ∃ i : Nat, i ≤ n1 ∧ iv = .int .i64 i ∧ EscAt wr ρq g (eRecv S1 a r m i) (.slice (some ⟨ga, off, none⟩) S.acc.length acap) mb L lk lb vT vq zq ∧ Fr (fun k => ρq k = .acc ∨ ρq k = .line a r) wq wr) (fun iv _ => n1 - (intOf iv).toNat)
  case atStart => exact ⟨0, Nat.zero_le _, rfl, by rw [eRecv_zero (pairB_right Hp1.out) m Hmo.out.1]; exact HQ.out.at_, Fr.refl _ _⟩
  case round =>
    obtain ⟨i, hi, rfl, hE, hf⟩ := hrel
    obtain ⟨hbox, hn1, hx, u0, u2, ufr⟩ := loop_facts HQ.out HI.out Hp1.out Hbk.out Hmo.out hE hf
    have hp2 : pairB (eRecv S1 a r m i).acc.length a r = true := by rw [eRecv_len]; exact Hp1.out
    obtain ⟨_, _, l2, _, lf⟩ := hE.lcells hp2
    obtain ⟨y0, y1, y2, y3, _⟩ := four_cells hbox
    rw [eRecv_ln] at l2
    obtain ⟨R, hR⟩ : ∃ R, R = max (S1.ln a r).rcv (m.f + i) := ⟨_, rfl⟩
    have hmo := Hmo.out
    have htm := (HI.out.sh.ok Hp1.out).tm
    have hi0 : ¬ (i : Int) < 0 := Int.not_lt.2 (Int.natCast_nonneg i)
    have Ht' := Ht.out
    have l2' : wr.cell? ⟨lb a r, 2, none⟩ = some (.int .i64 (R : Int)) := by rw [hR]; exact l2
    have hne : ¬ lb a r = ga := by
      intro e
      have h1 := hE.rl a r hp2
      rw [e, hE.ra ga Hbk.out] at h1
      cases h1
    have HR := Lib.hid hR
    have HE := Lib.hid hE
    have Hf := Lib.hid hf
    by_cases hlt : i < n1
    · obtain ⟨gi, offi, x, rfl, hxx, hxc⟩ := hx hlt
      have hltI : (i : Int) < n1 := by omega
      have HN := Lib.hid (loop_nums hn1 hmo.2.1 hmo.2.2.1 htm Ht' hlt)
      have Hxx := Lib.hid hxx
      have Hn1 := Lib.hid hn1
      have Hhi := Lib.hid hi
      by_cases hgt : R < m.f + i + 1
      · have hgI : (R : Int) < (m.f : Int) + 1 + i := by omega
        have hrc : (S1.ln a r).rcv < m.f + i + 1 := by omega
        have hst := eRecv_step (S := S1) (a := a) (b := r) m i hrc x hxx (pairB_right Hp1.out)
        have hbd := eRecv_bound HI.out Hp1.out m (i + 1)
        have hb3 : isB ((eRecv S1 a r m i).putL a r { (eRecv S1 a r m i).ln a r with rcv := m.f + i + 1 }).acc.length r = true := by
          rw [ES.putL_acc, eRecv_len]; exact pairB_right Hp1.out
        rw [hst, ES.putA_same hb3] at hbd
        obtain ⟨u, hu⟩ : ∃ u, u = ((eRecv S1 a r m i).ac r).u := ⟨_, rfl⟩
        rw [← hu] at u0 hbd hst
        simp only [] at hbd
        have e4 : wrap64 (u + x) = u + x := w64 (by omega) (by have := HU.out; omega)
        have Hst := Lib.hid hst
        have Hu := Lib.hid hu
        obtain ⟨e1, e2, e3, e5⟩ := HN.out
        clear hE hf hbox hn1 hx hp2 l2 hR hmo htm hxx hst hbd hu hi Ht' hgt hrc hb3 x0 x1 x2 x3
        go_wp2_with fail
        go_roundw
        case rel =>
          clear e1 e2 e3 e4
          refine ⟨i + 1, hlt, congrArg (Value.int .i64) e5, ?_, ?_⟩
          · rw [Hst.out]
            have := HE.out.recv (a := a) (r := r) (by rw [eRecv_len]; exact Hp1.out) (u + x) (m.f + i + 1) Hbk.out
            have ec : ((m.f + i + 1 : Nat) : Int) = (m.f : Int) + 1 + i := by omega
            rw [ec] at this
            exact this
          · exact (Hf.out.setCell (p := ⟨ga, off + r * 3, none⟩) (.inl (.inl (HE.out.ra ga Hbk.out))) _).setCell (p := ⟨lb a r, 2, none⟩) (.inl (.inr (HE.out.rl a r (by rw [eRecv_len]; exact Hp1.out)))) _
        case measure => exact loop_measure e5 hlt
      · have hgI : ¬ (R : Int) < (m.f : Int) + 1 + i := by omega
        have hsk := eRecv_skip (S := S1) (a := a) (b := r) m i (by omega)
        have Hsk := Lib.hid hsk
        obtain ⟨e1, e2, e3, e5⟩ := HN.out
        clear hE hf hbox hn1 hx hp2 l2 hR hmo htm hxx hsk hi Ht' hgt x0 x1 x2 x3
        go_wp2_with fail
        go_roundw
        case rel => exact ⟨i + 1, hlt, congrArg (Value.int .i64) e5, by rw [Hsk.out]; exact HE.out, Hf.out⟩
        case measure => exact loop_measure e5 hlt
    · have hin : n1 = i := by omega
      subst hin
      clear hE hf hx hR l2 hi x0 x1 x2 x3 hlt
      have hp3 : pairB (eRecv S1 a r m n1).acc.length r a = true := pairB_swap hp2
      obtain ⟨b0, b1, b2, _, bf⟩ := HE.out.lcells hp3
      have hlnb : (eRecv S1 a r m n1).ln r a = S1.ln r a := by simp only [eRecv, ES.putA_ln]; exact ES.putL_other _ _ _ _ _ _ (.inl (pairB_ne Hp1.out).symm)
      obtain ⟨A2, cap2, hv2⟩ := tr_form (HE.out.tr r a hp3)
      rw [hlnb] at b1 b2 hv2
      rw [hv2] at b0
      obtain ⟨K, hK⟩ : ∃ K, K = (S1.ln r a).all.length := ⟨_, rfl⟩
      obtain ⟨C, hC⟩ : ∃ C, C = (S1.ln r a).conf := ⟨_, rfl⟩
      rw [← hK] at b1
      rw [← hK, ← hC] at b0 hv2
      have okb := HI.out.sh.ok (pairB_swap Hp1.out)
      have hCK : C ≤ K := by rw [hC, hK]; exact Nat.le_trans okb.cr okb.ra
      have hcK : m.c ≤ K := by rw [hK]; exact Nat.le_trans hmo.2.2.2.2 okb.ra
      have hKt : K ≤ 1000000 := by rw [hK]; exact Nat.le_trans okb.tm Ht'
      have e6 : wrap64 ((K : Int) - (m.c : Int)) = (K : Int) - (m.c : Int) := w64 (by omega) (by omega)
      have hge : ¬ (n1 : Int) < n1 := Int.lt_irrefl _
      have HK := Lib.hid hK
      have HCf := Lib.hid hC
      have Hn1 := Lib.hid hn1
      have Hv2 := Lib.hid hv2
      have HCK := Lib.hid hCK
      have HcK := Lib.hid hcK
      have HKt := Lib.hid hKt
      by_cases hcf : C < m.c
      · have hcI : (K : Int) - (m.c : Int) < ((K - C : Nat) : Int) := by clear e6; omega
        have hlo : wrap64 (((K - C : Nat) : Int) - ((K : Int) - (m.c : Int))) = ((m.c - C : Nat) : Int) := by clear e6; rw [w64 (by omega) (by omega)]; omega
        have hlo' : IntKind.i64.wrap (((K - C : Nat) : Int) - ((K : Int) - (m.c : Int))) = ((m.c - C : Nat) : Int) := by clear e6 hlo; rw [IntKind.wrap_i64]; omega
        have hlo1 : m.c - C ≤ K - C := by omega
        have hsl := fun W : World => run_slice_lo (P := Try.prog) W 74 3 1 Try.underlying74 (by kernel_rfl) A2 (K - C) cap2 .i64 (m.c - C) hlo1
        obtain ⟨A3, hA3⟩ : ∃ A3, A3 = (if cap2 = m.c - C then A2 else A2.map (·.add ((m.c - C) * 1))) := ⟨_, rfl⟩
        rw [← hA3] at hsl
        have HA3 := Lib.hid hA3
        have Hcf := Lib.hid hcf
        clear hbox hn1 hp2 hmo htm Ht' hp3 hlnb hv2 hK hC okb hCK hcK hKt hA3 hcf hlo1
        go_wp2_with fail
        go_quiet (fail)
        go_wp2_with fail
        have Hd0 := Lib.hid ((Fr.refl None' wr).drewN nq)
        have j0 := Hd0.out.cell b0 (fun h => h)
        have j2 := Hd0.out.cell u2 (fun h => h)
        have jy := Hd0.out.cell y3 (fun h => h)
        generalize wr.drewN nq = wn at *
        have Hd := Lib.hid Hd0.out.drew
        have hsub : Row wn.drew 1 (.slice A3 (K - C - (m.c - C)) (cap2 - (m.c - C))) (ints ((S1.ln r a).all.drop m.c)) := by
          have hrow := (HE.out.tr r a (by rw [eRecv_len]; exact pairB_swap Hp1.out)).fr Hd.out (fun _ _ h => h)
          rw [eRecv_back Hp1.out, Hv2.out] at hrow
          have hcap : K - C ≤ cap2 := by obtain ⟨_, _, _, he, _, h3, _⟩ := hrow; cases he; exact h3
          have hs := hrow.sub (m.c - C) (K - C) cap2 (by have := HCK.out; have := HcK.out; have := Hcf.out; clear e6 hlo hlo'; omega) (Nat.le_refl _) hcap (Nat.le_refl _)
          rw [← HA3.out] at hs
          have e1 : ((((S1.ln r a).all.drop (S1.ln r a).conf).flatMap icell).drop ((m.c - C) * 1)).take ((K - C - (m.c - C)) * 1) = ints ((S1.ln r a).all.drop m.c) := by
            have hl : (((S1.ln r a).all.drop (S1.ln r a).conf).flatMap icell).length = K - C := by rw [flat_length _ 1 icell_len, List.length_drop, ← HK.out, ← HCf.out, Nat.mul_one]
            rw [Nat.mul_one, Nat.mul_one, List.take_of_length_le (by rw [List.length_drop, hl]; exact Nat.le_refl _)]
            show (ints ((S1.ln r a).all.drop (S1.ln r a).conf)).drop (m.c - C) = _
            rw [ints_map, ints_map, ← List.map_drop, List.drop_drop, ← HCf.out]
            congr 2
            have := Hcf.out; clear e6 hlo hlo'; omega
          rw [e1] at hs
          exact hs
        have Hsub := Lib.hid hsub
        have Hsl : Hid (((S1.ln r a).all.drop m.c).length ≤ 1000000) := Lib.hid (by rw [List.length_drop, ← HK.out]; have := HKt.out; clear e6 hlo hlo'; omega)
        have hne2 : ¬ ga = lb r a := by
          intro e
          have h1 := HE.out.rl r a (by rw [eRecv_len]; exact pairB_swap Hp1.out)
          rw [← e, HE.out.ra ga Hbk.out] at h1
          cases h1
        have hne3 : ¬ bm = lb r a := by
          intro e
          have h1 := HE.out.rl r a (by rw [eRecv_len]; exact pairB_swap Hp1.out)
          rw [← e, HQ.out.oth] at h1
          cases h1
        have jf := fun o => frozen_of_row wn ga o _ _ (Hd0.out.heap (frz_heap HE.out.acc Hbk.out).choose_spec.choose_spec (fun h => h))
        clear hsub b0 b1 b2 y0 y1 y2 y3 u0 u2 ufr l2' lf bf hcI
        obtain ⟨rv, hrv⟩ : ∃ rv, rv = (S1.ac r).r := ⟨_, rfl⟩
        rw [← hrv] at j2
        have Hrv := Lib.hid hrv
        clear hrv
        go_region_with (go_at_call 73; refine (clone_ints _ _ _ Hsub.out Hsl.out).mono ?_
                        rintro e w5 ⟨v5, rfl, hr5, hb5, hf5⟩
                        obtain ⟨A5, n5, cap5, rfl, _⟩ := hr5.form
                        have HX := Lib.hid (arrive_conf HQ.out HC.out Hp1.out Hf.out HE.out (Hd.out.trans0 hf5) hr5 (fun k hk => ⟨Nat.le_trans Hd.out.size (hb5 k hk).1, (hb5 k hk).2⟩))
                        have g0 := hf5.cell (show wn.drew.cell? ⟨lb r a, 0, none⟩ = _ from j0) (fun h => h)
                        have g2 := hf5.cell (show wn.drew.cell? ⟨ga, off + r * 3 + 2, none⟩ = _ from j2) (fun h => h)
                        have gy := hf5.cell (show wn.drew.cell? ⟨bm, 3, none⟩ = _ from jy) (fun h => h)
                        have gf := fun o => frozen_of_row w5 (lb r a) o _ _ ((Hd.out.trans0 hf5).heap (HE.out.line r a (by rw [eRecv_len]; exact pairB_swap Hp1.out)) (fun h => h))
                        have gg := fun o => frozen_of_row w5 ga o _ _ ((Hd.out.trans0 hf5).heap (frz_heap HE.out.acc Hbk.out).choose_spec.choose_spec (fun h => h))
                        clear hr5 hb5 hf5)
        all_goals cases rv
        all_goals (
          go_wp2_with fail
          go_ret
          obtain ⟨ρ1, vT1, E1, hfoot, hfr⟩ := HX.out
          rw [Hn1.out] at E1
          exact deliver_end (c := m.c) E1 Hbk.out hfoot hfr (pairB_right Hp1.out) (pairB_ne Hp1.out) Hmo.out.2.1 (by rw [← HCf.out]; have := Hcf.out; omega) _ (by rw [← Hrv.out]; rfl))
      · have hcI : ¬ (K : Int) - (m.c : Int) < ((K - C : Nat) : Int) := by clear e6; omega
        have Hcf := Lib.hid hcf
        clear hbox hn1 hp2 hmo htm Ht' hp3 hlnb hv2 hK hC okb hCK hcK hKt hcf y0 y1 u0 l2' lf
        obtain ⟨rv, hrv⟩ : ∃ rv, rv = (S1.ac r).r := ⟨_, rfl⟩
        rw [← hrv] at u2
        have Hrv := Lib.hid hrv
        clear hrv
        cases rv
        all_goals (
          go_wp2_with fail
          go_quiet (fail)
          go_wp2_with fail
          go_ret
          obtain ⟨E1, hfoot, hfr⟩ := arrive_same HQ.out Hp1.out Hf.out HE.out (wr.drewN nq) ((Fr.refl None' wr).drewN nq)
          rw [Hn1.out] at E1
          exact deliver_end (c := (S1.ln r a).conf) E1 Hbk.out hfoot hfr (pairB_right Hp1.out) (pairB_ne Hp1.out) Hmo.out.2.1 (by rw [← HCf.out]; have := Hcf.out; omega) _ (by rw [← Hrv.out]; rfl))

set_option maxHeartbeats 8000000 in
set_option maxRecDepth 100000 in
theorem deliver_do_again {U : Int} {t : Nat} {w : World} {F : Nat → Prop} {ρ : Nat → Role} {g : Nat} {S : ES} {vA : Value} {mb : Nat} {L : List WE} {lk : Nat} {lb : Int → Int → Nat} {vT vM : Int → Int → Value} {mz : Int → Int → List (Value × EM)}
    (h : EscAt w ρ g S vA mb L lk lb vT vM mz) (hF : ∀ k, ρ k ≠ .other → F k) (hcut : ∀ k, w.heap.size ≤ k → ρ k = .other) (hU : U ≤ 1000000000) (hI : Inv U t S) (ht : t ≤ 1000000) (a b : Int) (hp : pairB S.acc.length a b = true) (m : EM) (q : List EM) (hm : (S.ln a b).ms = m :: q) :
    Calls Try.prog 29 #[.pointer (some ⟨g, 0, none⟩), .int .i64 a, .int .i64 b, .bool false, .bool true] w (EPost w F g (.bool true) (eTake (eNext S a b (q ++ [m])) a b m)) := by
  have H := Lib.hid (line_at h a b hp)
  have H' := Lib.hid (line_at h b a (pairB_swap hp))
  obtain ⟨A1, n1, c1, zs, g0, off0, n0, cap0, hz, hq, hv, hb, h1, hrd⟩ := h.first hp hm
  have hl := h.line a b hp
  have hs := h.ms a b hp
  rw [hv] at hl hs
  rw [hz] at hs
  have hne : g0 ≠ lb a b := by
    intro e
    have h2 := h.rs a b hp g0 hb
    rw [e, h.rl a b hp] at h2; cases h2
  have hok := hI.sh.ok hp
  have hql : q.length ≤ 99 := by have := hok.mq; rw [hm] at this; simp only [List.length_cons] at this; omega
  have hmo : MsgOK S a b m := hok.mm m (by rw [hm]; simp)
  obtain ⟨S1, hS1⟩ : ∃ S1, S1 = eNext S a b (q ++ [m]) := ⟨_, rfl⟩
  have hI1 : Inv U t S1 := by
    rw [hS1]
    refine eNext_inv hI hp _ (by rw [List.length_append]; simp only [List.length_singleton]; omega) (fun m' hm' => ?_)
    rw [hm]
    rcases List.mem_append.1 hm' with hm' | hm'
    · simp [hm']
    · simp at hm'; simp [hm']
  have hmo1 : MsgOK S1 a b m := by
    rw [hS1]
    simp only [MsgOK, eNext, ES.putL_same, ES.putL_other _ _ _ _ _ _ (.inl (pairB_ne hp).symm)]
    exact hmo
  have hp1 : pairB S1.acc.length a b = true := by rw [hS1]; exact hp
  rw [← hS1]
  obtain ⟨r, y, rfl, hy⟩ := isB_get (pairB_right hp)
  obtain ⟨ga, off, acap, rfl, hbk, _, _, _, _⟩ := acc_get h.acc (by have := hI.sh.n8; omega) hy
  have hr : r < S.acc.length := (List.getElem?_eq_some_iff.1 hy).1
  have HT := Lib.hid (take_ok hl hs h1 hne)
  have HA := Lib.hid (fun w2 x y z => half_take (w2 := w2) h hF hcut hp hz hq hv hb hrd x y z)
  have Hp := Lib.hid hp
  have Hp1 := Lib.hid hp1
  have Hql := Lib.hid hql
  have HI := Lib.hid hI1
  have Hmo := Lib.hid hmo1
  have HS := Lib.hid hS1
  have Hbk := Lib.hid hbk
  have Hr := Lib.hid hr
  have HU := Lib.hid hU
  have Ht := Lib.hid ht
  clear h hF hcut hI hp hm hz hq hv hb h1 hrd hl hs hne hok hql hmo hI1 hmo1 hp1 hS1 hbk hr hy hU ht
  go_enter Try.func29, Try.ntmps29
  go_wp2_with fail
  refine H.out.mono ?_
  rintro e w' ⟨rfl, rfl⟩
  go_wp2_with fail
  refine H'.out.mono ?_
  rintro e w' ⟨rfl, rfl⟩
  go_wp2_with fail
  refine HT.out.mono ?_
  rintro e w2 ⟨rfl, hr2, hl2, hf2⟩
  obtain ⟨ρ1, hH, hc1⟩ := HA.out w2 hr2 hl2 hf2
  have HH := Lib.hid hH
  have Hc1 := Lib.hid hc1
  clear hr2 hl2 hf2 HA HT hH hc1 H H'
  go_wp2_with fail
  generalize hbm : w2.heap.size = bm at *
  generalize w2.alloc (.cells #[.slice A1 n1 c1, .int .i64 m.l, .int .i64 m.c, .bool m.r] 137) = w3 at *
  obtain ⟨x0, x1, x2, x3, _⟩ := four_cells HH.out.box
  go_still_tail 4, (by kernel_rfl)
  change wpList _ _ _ _ _ w3.drew
  have HHd := Lib.hid HH.out.drew
  have Hcd := Lib.hid (show ∀ k, w3.drew.heap.size ≤ k → ρ1 k = .other from fun k hk => Hc1.out k (by
    have := (Array.getElem?_eq_some_iff.1 HH.out.box).1
    have hk' : w3.heap.size ≤ k := hk
    omega))
  clear HH Hc1 x0 x1 x2 x3
  generalize w3.drew = w4 at *
  go_wp2_with fail
  refine (half_put_ok HHd.out Hcd.out Hp.out (by rw [eNext_ms]; have := Hql.out; omega)).mono ?_
  rintro e wQ ⟨rfl, ρ2, vM2, mz2, hH2, hc2⟩
  rw [eNext_ms, eNext_eNext, ← HS.out] at hH2
  have HH := Lib.hid hH2
  have Hc := Lib.hid hc2
  clear hH2 hc2 HHd Hcd
  go_wp2_with fail
  -- behind the queue's part
  have HX : ∃ ρq vq zq, Half w' wQ F g S1 a r m (.slice (some ⟨ga, off, none⟩) S.acc.length acap) mb L lk lb bm (.slice A1 n1 c1) ρq vT vq zq ∧ (∀ k, wQ.heap.size ≤ k → ρq k = .other) := ⟨_, _, _, HH.out, Hc.out⟩
  obtain ⟨ρq, vq, zq, hHq, hcq⟩ := HX
  have HQ := Lib.hid hHq
  have HC := Lib.hid hcq
  clear HH Hc hHq hcq
  refine (at_yes HQ.out.at_.cells.1 r Hr.out).mono ?_
  rintro e wq ⟨rfl, rfl⟩
  obtain ⟨x0, x1, x2, x3, _⟩ := four_cells HQ.out.box
  go_wp2_with fail
  go_loopw [52] (fun iv wr => ∃ i : Nat, i ≤ n1 ∧ iv = .int .i64 i ∧ EscAt wr ρq g (eRecv S1 a r m i) (.slice (some ⟨ga, off, none⟩) S.acc.length acap) mb L lk lb vT vq zq ∧ Fr (fun k => ρq k = .acc ∨ ρq k = .line a r) wq wr) (fun iv _ => n1 - (intOf iv).toNat)
  case atStart => exact ⟨0, Nat.zero_le _, rfl, by rw [eRecv_zero (pairB_right Hp1.out) m Hmo.out.1]; exact HQ.out.at_, Fr.refl _ _⟩
  case round =>
    obtain ⟨i, hi, rfl, hE, hf⟩ := hrel
    obtain ⟨hbox, hn1, hx, u0, u2, ufr⟩ := loop_facts HQ.out HI.out Hp1.out Hbk.out Hmo.out hE hf
    have hp2 : pairB (eRecv S1 a r m i).acc.length a r = true := by rw [eRecv_len]; exact Hp1.out
    obtain ⟨_, _, l2, _, lf⟩ := hE.lcells hp2
    obtain ⟨y0, y1, y2, y3, _⟩ := four_cells hbox
    rw [eRecv_ln] at l2
    obtain ⟨R, hR⟩ : ∃ R, R = max (S1.ln a r).rcv (m.f + i) := ⟨_, rfl⟩
    have hmo := Hmo.out
    have htm := (HI.out.sh.ok Hp1.out).tm
    have hi0 : ¬ (i : Int) < 0 := Int.not_lt.2 (Int.natCast_nonneg i)
    have Ht' := Ht.out
    have l2' : wr.cell? ⟨lb a r, 2, none⟩ = some (.int .i64 (R : Int)) := by rw [hR]; exact l2
    have hne : ¬ lb a r = ga := by
      intro e
      have h1 := hE.rl a r hp2
      rw [e, hE.ra ga Hbk.out] at h1
      cases h1
    have HR := Lib.hid hR
    have HE := Lib.hid hE
    have Hf := Lib.hid hf
    by_cases hlt : i < n1
    · obtain ⟨gi, offi, x, rfl, hxx, hxc⟩ := hx hlt
      have hltI : (i : Int) < n1 := by omega
      have HN := Lib.hid (loop_nums hn1 hmo.2.1 hmo.2.2.1 htm Ht' hlt)
      have Hxx := Lib.hid hxx
      have Hn1 := Lib.hid hn1
      have Hhi := Lib.hid hi
      by_cases hgt : R < m.f + i + 1
      · have hgI : (R : Int) < (m.f : Int) + 1 + i := by omega
        have hrc : (S1.ln a r).rcv < m.f + i + 1 := by omega
        have hst := eRecv_step (S := S1) (a := a) (b := r) m i hrc x hxx (pairB_right Hp1.out)
        have hbd := eRecv_bound HI.out Hp1.out m (i + 1)
        have hb3 : isB ((eRecv S1 a r m i).putL a r { (eRecv S1 a r m i).ln a r with rcv := m.f + i + 1 }).acc.length r = true := by
          rw [ES.putL_acc, eRecv_len]; exact pairB_right Hp1.out
        rw [hst, ES.putA_same hb3] at hbd
        obtain ⟨u, hu⟩ : ∃ u, u = ((eRecv S1 a r m i).ac r).u := ⟨_, rfl⟩
        rw [← hu] at u0 hbd hst
        simp only [] at hbd
        have e4 : wrap64 (u + x) = u + x := w64 (by omega) (by have := HU.out; omega)
        have Hst := Lib.hid hst
        have Hu := Lib.hid hu
        obtain ⟨e1, e2, e3, e5⟩ := HN.out
        clear hE hf hbox hn1 hx hp2 l2 hR hmo htm hxx hst hbd hu hi Ht' hgt hrc hb3 x0 x1 x2 x3
        go_wp2_with fail
        go_roundw
        case rel =>
          clear e1 e2 e3 e4
          refine ⟨i + 1, hlt, congrArg (Value.int .i64) e5, ?_, ?_⟩
          · rw [Hst.out]
            have := HE.out.recv (a := a) (r := r) (by rw [eRecv_len]; exact Hp1.out) (u + x) (m.f + i + 1) Hbk.out
            have ec : ((m.f + i + 1 : Nat) : Int) = (m.f : Int) + 1 + i := by omega
            rw [ec] at this
            exact this
          · exact (Hf.out.setCell (p := ⟨ga, off + r * 3, none⟩) (.inl (.inl (HE.out.ra ga Hbk.out))) _).setCell (p := ⟨lb a r, 2, none⟩) (.inl (.inr (HE.out.rl a r (by rw [eRecv_len]; exact Hp1.out)))) _
        case measure => exact loop_measure e5 hlt
      · have hgI : ¬ (R : Int) < (m.f : Int) + 1 + i := by omega
        have hsk := eRecv_skip (S := S1) (a := a) (b := r) m i (by omega)
        have Hsk := Lib.hid hsk
        obtain ⟨e1, e2, e3, e5⟩ := HN.out
        clear hE hf hbox hn1 hx hp2 l2 hR hmo htm hxx hsk hi Ht' hgt x0 x1 x2 x3
        go_wp2_with fail
        go_roundw
        case rel => exact ⟨i + 1, hlt, congrArg (Value.int .i64) e5, by rw [Hsk.out]; exact HE.out, Hf.out⟩
        case measure => exact loop_measure e5 hlt
    · have hin : n1 = i := by omega
      subst hin
      clear hE hf hx hR l2 hi x0 x1 x2 x3 hlt
      have hp3 : pairB (eRecv S1 a r m n1).acc.length r a = true := pairB_swap hp2
      obtain ⟨b0, b1, b2, _, bf⟩ := HE.out.lcells hp3
      have hlnb : (eRecv S1 a r m n1).ln r a = S1.ln r a := by simp only [eRecv, ES.putA_ln]; exact ES.putL_other _ _ _ _ _ _ (.inl (pairB_ne Hp1.out).symm)
      obtain ⟨A2, cap2, hv2⟩ := tr_form (HE.out.tr r a hp3)
      rw [hlnb] at b1 b2 hv2
      rw [hv2] at b0
      obtain ⟨K, hK⟩ : ∃ K, K = (S1.ln r a).all.length := ⟨_, rfl⟩
      obtain ⟨C, hC⟩ : ∃ C, C = (S1.ln r a).conf := ⟨_, rfl⟩
      rw [← hK] at b1
      rw [← hK, ← hC] at b0 hv2
      have okb := HI.out.sh.ok (pairB_swap Hp1.out)
      have hCK : C ≤ K := by rw [hC, hK]; exact Nat.le_trans okb.cr okb.ra
      have hcK : m.c ≤ K := by rw [hK]; exact Nat.le_trans hmo.2.2.2.2 okb.ra
      have hKt : K ≤ 1000000 := by rw [hK]; exact Nat.le_trans okb.tm Ht'
      have e6 : wrap64 ((K : Int) - (m.c : Int)) = (K : Int) - (m.c : Int) := w64 (by omega) (by omega)
      have hge : ¬ (n1 : Int) < n1 := Int.lt_irrefl _
      have HK := Lib.hid hK
      have HCf := Lib.hid hC
      have Hn1 := Lib.hid hn1
      have Hv2 := Lib.hid hv2
      have HCK := Lib.hid hCK
      have HcK := Lib.hid hcK
      have HKt := Lib.hid hKt
      by_cases hcf : C < m.c
      · have hcI : (K : Int) - (m.c : Int) < ((K - C : Nat) : Int) := by clear e6; omega
        have hlo : wrap64 (((K - C : Nat) : Int) - ((K : Int) - (m.c : Int))) = ((m.c - C : Nat) : Int) := by clear e6; rw [w64 (by omega) (by omega)]; omega
        have hlo' : IntKind.i64.wrap (((K - C : Nat) : Int) - ((K : Int) - (m.c : Int))) = ((m.c - C : Nat) : Int) := by clear e6 hlo; rw [IntKind.wrap_i64]; omega
        have hlo1 : m.c - C ≤ K - C := by omega
        have hsl := fun W : World => run_slice_lo (P := Try.prog) W 74 3 1 Try.underlying74 (by kernel_rfl) A2 (K - C) cap2 .i64 (m.c - C) hlo1
        obtain ⟨A3, hA3⟩ : ∃ A3, A3 = (if cap2 = m.c - C then A2 else A2.map (·.add ((m.c - C) * 1))) := ⟨_, rfl⟩
        rw [← hA3] at hsl
        have HA3 := Lib.hid hA3
        have Hcf := Lib.hid hcf
        clear hbox hn1 hp2 hmo htm Ht' hp3 hlnb hv2 hK hC okb hCK hcK hKt hA3 hcf hlo1
        go_wp2_with fail
        go_quiet (fail)
        go_wp2_with fail
        have Hd0 := Lib.hid ((Fr.refl None' wr).drewN nq)
        have j0 := Hd0.out.cell b0 (fun h => h)
        have j2 := Hd0.out.cell u2 (fun h => h)
        have jy := Hd0.out.cell y3 (fun h => h)
        generalize wr.drewN nq = wn at *
        have Hd := Lib.hid Hd0.out.drew
        have hsub : Row wn.drew 1 (.slice A3 (K - C - (m.c - C)) (cap2 - (m.c - C))) (ints ((S1.ln r a).all.drop m.c)) := by
          have hrow := (HE.out.tr r a (by rw [eRecv_len]; exact pairB_swap Hp1.out)).fr Hd.out (fun _ _ h => h)
          rw [eRecv_back Hp1.out, Hv2.out] at hrow
          have hcap : K - C ≤ cap2 := by obtain ⟨_, _, _, he, _, h3, _⟩ := hrow; cases he; exact h3
          have hs := hrow.sub (m.c - C) (K - C) cap2 (by have := HCK.out; have := HcK.out; have := Hcf.out; clear e6 hlo hlo'; omega) (Nat.le_refl _) hcap (Nat.le_refl _)
          rw [← HA3.out] at hs
          have e1 : ((((S1.ln r a).all.drop (S1.ln r a).conf).flatMap icell).drop ((m.c - C) * 1)).take ((K - C - (m.c - C)) * 1) = ints ((S1.ln r a).all.drop m.c) := by
            have hl : (((S1.ln r a).all.drop (S1.ln r a).conf).flatMap icell).length = K - C := by rw [flat_length _ 1 icell_len, List.length_drop, ← HK.out, ← HCf.out, Nat.mul_one]
            rw [Nat.mul_one, Nat.mul_one, List.take_of_length_le (by rw [List.length_drop, hl]; exact Nat.le_refl _)]
            show (ints ((S1.ln r a).all.drop (S1.ln r a).conf)).drop (m.c - C) = _
            rw [ints_map, ints_map, ← List.map_drop, List.drop_drop, ← HCf.out]
            congr 2
            have := Hcf.out; clear e6 hlo hlo'; omega
          rw [e1] at hs
          exact hs
        have Hsub := Lib.hid hsub
        have Hsl : Hid (((S1.ln r a).all.drop m.c).length ≤ 1000000) := Lib.hid (by rw [List.length_drop, ← HK.out]; have := HKt.out; clear e6 hlo hlo'; omega)
        have hne2 : ¬ ga = lb r a := by
          intro e
          have h1 := HE.out.rl r a (by rw [eRecv_len]; exact pairB_swap Hp1.out)
          rw [← e, HE.out.ra ga Hbk.out] at h1
          cases h1
        have hne3 : ¬ bm = lb r a := by
          intro e
          have h1 := HE.out.rl r a (by rw [eRecv_len]; exact pairB_swap Hp1.out)
          rw [← e, HQ.out.oth] at h1
          cases h1
        have jf := fun o => frozen_of_row wn ga o _ _ (Hd0.out.heap (frz_heap HE.out.acc Hbk.out).choose_spec.choose_spec (fun h => h))
        clear hsub b0 b1 b2 y0 y1 y2 y3 u0 u2 ufr l2' lf bf hcI
        obtain ⟨rv, hrv⟩ : ∃ rv, rv = (S1.ac r).r := ⟨_, rfl⟩
        rw [← hrv] at j2
        have Hrv := Lib.hid hrv
        clear hrv
        go_region_with (go_at_call 73; refine (clone_ints _ _ _ Hsub.out Hsl.out).mono ?_
                        rintro e w5 ⟨v5, rfl, hr5, hb5, hf5⟩
                        obtain ⟨A5, n5, cap5, rfl, _⟩ := hr5.form
                        have HX := Lib.hid (arrive_conf HQ.out HC.out Hp1.out Hf.out HE.out (Hd.out.trans0 hf5) hr5 (fun k hk => ⟨Nat.le_trans Hd.out.size (hb5 k hk).1, (hb5 k hk).2⟩))
                        have g0 := hf5.cell (show wn.drew.cell? ⟨lb r a, 0, none⟩ = _ from j0) (fun h => h)
                        have g2 := hf5.cell (show wn.drew.cell? ⟨ga, off + r * 3 + 2, none⟩ = _ from j2) (fun h => h)
                        have gy := hf5.cell (show wn.drew.cell? ⟨bm, 3, none⟩ = _ from jy) (fun h => h)
                        have gf := fun o => frozen_of_row w5 (lb r a) o _ _ ((Hd.out.trans0 hf5).heap (HE.out.line r a (by rw [eRecv_len]; exact pairB_swap Hp1.out)) (fun h => h))
                        have gg := fun o => frozen_of_row w5 ga o _ _ ((Hd.out.trans0 hf5).heap (frz_heap HE.out.acc Hbk.out).choose_spec.choose_spec (fun h => h))
                        clear hr5 hb5 hf5)
        all_goals cases rv
        all_goals (
          go_wp2_with fail
          go_ret
          obtain ⟨ρ1, vT1, E1, hfoot, hfr⟩ := HX.out
          rw [Hn1.out] at E1
          exact deliver_end (c := m.c) E1 Hbk.out hfoot hfr (pairB_right Hp1.out) (pairB_ne Hp1.out) Hmo.out.2.1 (by rw [← HCf.out]; have := Hcf.out; omega) _ (by rw [← Hrv.out]; rfl))
      · have hcI : ¬ (K : Int) - (m.c : Int) < ((K - C : Nat) : Int) := by clear e6; omega
        have Hcf := Lib.hid hcf
        clear hbox hn1 hp2 hmo htm Ht' hp3 hlnb hv2 hK hC okb hCK hcK hKt hcf y0 y1 u0 l2' lf
        obtain ⟨rv, hrv⟩ : ∃ rv, rv = (S1.ac r).r := ⟨_, rfl⟩
        rw [← hrv] at u2
        have Hrv := Lib.hid hrv
        clear hrv
        cases rv
        all_goals (
          go_wp2_with fail
          go_quiet (fail)
          go_wp2_with fail
          go_ret
          obtain ⟨E1, hfoot, hfr⟩ := arrive_same HQ.out Hp1.out Hf.out HE.out (wr.drewN nq) ((Fr.refl None' wr).drewN nq)
          rw [Hn1.out] at E1
          exact deliver_end (c := (S1.ln r a).conf) E1 Hbk.out hfoot hfr (pairB_right Hp1.out) (pairB_ne Hp1.out) Hmo.out.2.1 (by rw [← HCf.out]; have := Hcf.out; omega) _ (by rw [← Hrv.out]; rfl))
end Go.Proofs.Ytdjaofkbgkifkaa

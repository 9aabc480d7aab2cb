/- NetHonest: the walk. -/
import Derived.Test.YtdgcimjpggjnjaaNhon
import Derived.Test.YtdgcimjpggjnjaaRdl
import Derived.Test.YtdgcimjpggjnjaaRow2
set_option linter.unusedVariables false
set_option linter.unusedSimpArgs false
namespace Go.Proofs.Ytdgcimjpggjnjaa
open Go.RowKit

def Rst.cells (r : Rst) : List Value := [.int .i64 r.err, .string r.text, .bool r.ok]
theorem Rst.cells_len (r : Rst) : r.cells.length = 3 := rfl
theorem info42 : (Try.prog.info? 42).map (fun i => (i.zero, i.size, i.bytes)) = some (some (.agg #[.int .i64 0, .string ⟨#[]⟩, .bool false]), 3, 32) := by kernel_rfl
/-- The results so far. -/
abbrev RdR (w : World) (v : Value) (l : List Rst) : Prop := RdL Rst.cells 3 w v l
theorem RdR.get {w : World} {g off n cap : Nat} {l : List Rst} (h : RdR w (.slice (some ⟨g, off, none⟩) n cap) l) {k : Nat} {x : Rst} (hx : l[k]? = some x) :
    w.cell? ⟨g, off + k * 3, none⟩ = some (.int .i64 x.err) ∧ w.cell? ⟨g, off + k * 3 + 1, none⟩ = some (.string x.text) ∧ w.cell? ⟨g, off + k * 3 + 2, none⟩ = some (.bool x.ok) := by
  obtain ⟨A, n', cap', he, hn, hl, h0⟩ := h
  cases he
  have hk : k < l.length := (List.getElem?_eq_some_iff.1 hx).1
  obtain ⟨g', off', he', hc⟩ := h0 (by omega)
  cases he'
  exact ⟨hc k x hx 0 _ rfl, hc k x hx 1 _ rfl, hc k x hx 2 _ rfl⟩

/-- The outer loop's relation. -/
def HonRel (w1 : World) (B : Nat) (g : Nat) (l : List Stp) (k : Nat) (v : Value) (wr : World) : Prop :=
  ∃ F S hs, NetS wr F g S ∧ QB S ∧ Hon S hs ∧ hs.map (·.1) = l.take k ∧ (∀ k, F k → B ≤ k ∧ k < wr.heap.size) ∧ Row wr 3 v ((hs.map (·.2)).flatMap Rst.cells) ∧ (∀ k, rowBlk v = some k → B ≤ k ∧ ¬ F k) ∧ B ≤ wr.heap.size ∧ Fr None' w1 wr

theorem HonRel.fr0 {w1 w w' : World} {B g : Nat} {l : List Stp} {k : Nat} {v : Value} (h : HonRel w1 B g l k v w) (hf : Fr None' w w') : HonRel w1 B g l k v w' := by
  obtain ⟨F, S, hs, hnet, hQ, hhon, hmap, hF, hrow, hown, hB, hfr⟩ := h
  exact ⟨F, S, hs, hnet.fr hf (fun _ _ h => h), hQ, hhon, hmap, fun k hk => ⟨(hF k hk).1, Nat.lt_of_lt_of_le (hF k hk).2 hf.size⟩, hrow.fr hf (fun _ _ h => h), hown, Nat.le_trans hB hf.size, hfr.trans0 hf⟩
theorem hon_next {w1 wr w4 w6 : World} {B g : Nat} {l : List Stp} {k : Nat} {u8 v6 : Value} {F : Nat → Prop} {S' : NS} {hs : Hs} {x : Stp} {y0 : Int} {y1 : ByteArray} {y2 : Bool}
    (hn4 : NetS w4 (Ext F wr w4) g S') (hf4 : Fr F wr w4) (hQ : QB S') (hstep : Hon S' (hs ++ [(x, ⟨y0, y1, y2⟩)])) (hmap : hs.map (·.1) = l.take k) (hx : l[k]? = some x)
    (hF : ∀ k, F k → B ≤ k ∧ k < wr.heap.size) (hown : ∀ k, rowBlk u8 = some k → B ≤ k ∧ ¬ F k) (hB : B ≤ wr.heap.size) (hfr : Fr None' w1 wr)
    (hr6 : Row w6 3 v6 ((hs.map (·.2)).flatMap Rst.cells ++ [.int .i64 y0, .string y1, .bool y2])) (hg6 : (w4.alloc (.cells #[.int .i64 y0, .string y1, .bool y2] 42)).grownBy w6 (rowBlk u8)) (hb6 : rowBlk v6 = rowBlk u8 ∨ rowBlk v6 = some (w4.heap.size + 1)) (hlt : ∀ k, rowBlk u8 = some k → k < wr.heap.size) (h1B : B = w1.heap.size) :
    HonRel w1 B g l (k + 1) v6 w6 := by
  have s4 : wr.heap.size ≤ w4.heap.size := hf4.size
  have hf46 : Fr (fun j => rowBlk u8 = some j) w4 w6 := ((Fr.refl _ w4).alloc _).grown hg6 (fun j hj => .inl hj)
  have s6 : w4.heap.size ≤ w6.heap.size := hf46.size
  have hd : ∀ j, Ext F wr w4 j → ¬ rowBlk u8 = some j := by
    intro j hj he
    rcases hj with hj | hj
    · exact (hown j he).2 hj
    · have := hlt j he; omega
  refine ⟨Ext F wr w4, S', hs ++ [(x, ⟨y0, y1, y2⟩)], hn4.fr hf46 hd, hQ, hstep, ?_, ?_, ?_, ?_, by omega, ?_⟩
  · rw [List.map_append, hmap, List.take_add_one, hx]; rfl
  · intro j hj
    rcases hj with hj | hj
    · have := hF j hj; exact ⟨this.1, by omega⟩
    · exact ⟨by omega, by omega⟩
  · rw [List.map_append, List.flatMap_append]; exact hr6
  · intro j hj
    rcases hb6 with h | h
    · rw [h] at hj
      exact ⟨(hown j hj).1, fun he => hd j he hj⟩
    · rw [h] at hj
      cases hj
      refine ⟨by omega, fun he => ?_⟩
      rcases he with he | he
      · have := (hF _ he).2; omega
      · omega
  · exact (hfr.trans hf4 (fun i hi h => by have := (hF i h).1; omega)).trans hf46 (fun i hi h => by have := (hown i h).1; omega)
theorem hon_read {w6 : World} {v6 : Value} {hs : Hs} {x : Stp} {r : Rst} (hr6 : Row w6 3 v6 ((hs.map (·.2)).flatMap Rst.cells ++ r.cells)) {k : Nat} (hk : hs.length = k) (hlen : k ≤ 1000) :
    ∃ g off c, v6 = .slice (some ⟨g, off, none⟩) (k + 1) c ∧ RdR w6 (.slice (some ⟨g, off, none⟩) (k + 1) c) ((hs ++ [(x, r)]).map (·.2)) := by
  subst hk
  have h : RdR w6 v6 ((hs ++ [(x, r)]).map (·.2)) := Row.rdL Rst.cells Rst.cells_len (by decide) (by rw [List.map_append, List.flatMap_append]; simpa using hr6) (by simp; omega)
  obtain ⟨A, n, c, rfl, hn, hl, h0⟩ := id h
  simp at hn
  obtain ⟨g, off, rfl, _⟩ := h0 (by omega)
  subst hn
  exact ⟨g, off, c, rfl, h⟩

theorem cS_le (a b : Int) (h : Hs) : cS a b h ≤ h.length := List.countP_le_length
theorem cG_le (a b : Int) (h : Hs) : cG a b h ≤ h.length := List.countP_le_length
theorem wrap_nat (n : Nat) (h : n ≤ 100000) : wrap64 ((n : Int) + 1) = (n : Int) + 1 := by
  unfold wrap64; omega
theorem hon_get {hs : Hs} {l : List Stp} {k j : Nat} {x : Stp} {r : Rst} (hmap : hs.map (·.1) = l.take k) (hx : l[k]? = some x) (hk : hs.length = k) (hj : j ≤ k) :
    ∃ y s, (hs ++ [(x, r)])[j]? = some (y, s) ∧ l[j]? = some y ∧ (hs ++ [(x, r)]).take (j + 1) = (hs ++ [(x, r)]).take j ++ [(y, s)] := by
  have hlt : j < (hs ++ [(x, r)]).length := by simp; omega
  have hg0 := List.getElem?_eq_getElem hlt
  obtain ⟨⟨y, s⟩, hg⟩ : ∃ p, (hs ++ [(x, r)])[j]? = some p := ⟨_, hg0⟩
  refine ⟨y, s, hg, ?_, by rw [List.take_add_one, hg]; rfl⟩
  have h1 : ((hs ++ [(x, r)]).map (·.1))[j]? = some y := by rw [List.getElem?_map, hg]; rfl
  have h2 : (hs ++ [(x, r)]).map (·.1) = l.take (k + 1) := by rw [List.map_append, hmap, List.take_add_one, hx]; rfl
  rw [h2, List.getElem?_take, if_pos (by omega)] at h1
  exact h1
set_option maxRecDepth 100000 in
set_option maxHeartbeats 2000000 in
theorem netHonest_any {l : List Stp} (nodes : Int) (vl : Value) (w : World) (hl : RdP w vl l) (hm : ∀ x ∈ l, x.text.size ≤ 9223372036854775807) (hN1 : 1 ≤ nodes) (hN2 : nodes ≤ 8) (hfew : fewB l = true) :
    Calls Try.prog 7 #[.int .i64 nodes, vl] w fun e w' => e = .returned (.bool true) ∧ Fr None' w w' := by
  obtain ⟨A, n, cap, rfl, hn, hln, hA⟩ := id hl
  have Hm := Lib.hid hm
  have Hl := Lib.hid hl
  have Hfew := Lib.hid hfew
  clear hm hl hA hfew
  have h150 : l.length ≤ 150 := by have := Hfew.out; rw [fewB, decide_eq_true_eq] at this; exact this.1
  have hn150 : n ≤ 150 := by omega
  have Hn := Lib.hid hn
  clear hn
  go_enter Try.func7, Try.ntmps7
  go_wp2_with fail
  refine (head_any w).mono ?_
  rintro e w1 ⟨rfl, hf1⟩
  have Hf1 := Lib.hid hf1
  clear hf1
  go_wp2_with fail
  refine (s_new nodes w1 hN1 hN2).mono ?_
  rintro e w2 ⟨g, rfl, hn2, hf2⟩
  have hb2 : w1.heap.size ≤ w2.heap.size := hf2.size
  have Hn2 : Hid (NetS w2 (Own w1.heap.size w2) g (NS.new nodes)) := Lib.hid (hn2.mono (fun k hk => by rcases hk with hk | hk; exact hk.elim; exact hk))
  have Hf2 := Lib.hid hf2
  clear hn2 hf2
  go_wp2_with fail
  refine (few_any (Hl.out.fr0 (Hf1.out.trans0 Hf2.out)) Hm.out).mono ?_
  rw [Hfew.out]
  rintro e w3 ⟨rfl, rfl⟩
  go_wp2_with fail
  go_loopw [8, 9] (fun v i wr => ∃ k : Nat, k ≤ n ∧ i = .int .i64 k ∧ HonRel w1 w1.heap.size g l k v wr) (fun _ i _ => n - (intOf i).toNat)
  case atStart => exact ⟨0, Nat.zero_le _, rfl, _, _, [], Hn2.out, QB.new _, Hon.new _, rfl, fun k hk => hk, Row.nil _ _ _, fun k hk => by simp [rowBlk] at hk, hb2, Hf2.out⟩
  case round =>
    obtain ⟨k, hk, rfl, hr⟩ := hrel
    obtain ⟨F, S, hs, hnet, hQ, hhon, hmap, hF, hrow, hown, hB, hfr⟩ := hr
    have Hnet := Lib.hid hnet
    have HF := Lib.hid hF
    have Hrow := Lib.hid hrow
    have Hown := Lib.hid hown
    have Hfr := Lib.hid hfr
    have HQ := Lib.hid hQ
    have Hhon := Lib.hid hhon
    have Hmap := Lib.hid hmap
    have HF' : Hid (∀ k, wr.heap.size ≤ k → ¬ F k) := Lib.hid (fun k hk h => absurd (hF k h).2 (by omega))
    clear hnet hF hrow hown hfr hQ hhon hmap
    by_cases hlt : k < n
    · obtain ⟨x, hx⟩ : ∃ x, l[k]? = some x := ⟨_, List.getElem?_eq_getElem (by rw [← Hn.out]; exact hlt)⟩
      obtain ⟨gl, off, rfl, hc⟩ : ∃ gl off, A = some ⟨gl, off, none⟩ ∧ True := by
        obtain ⟨_, _, _, he, _, _, h0⟩ := Hl.out
        cases he
        obtain ⟨gl, off, h, _⟩ := h0 (by omega)
        exact ⟨gl, off, h, trivial⟩
      have hlr := Hl.out.fr0 (Hf1.out.trans0 Hfr.out)
      obtain ⟨c0, c1, c2, c3, c4, c5⟩ := RdP.get hlr hx
      have hxm : x.text.size ≤ 9223372036854775807 := Hm.out x (List.mem_of_getElem? hx)
      have Hx := Lib.hid hx
      have Hlr := Lib.hid hlr
      have hki : (k : Int) < (n : Int) := by omega
      have hk0 : (0 : Int) ≤ (k : Int) := by omega
      clear hx hlr hc
      obtain ⟨hstep, hkn⟩ := Hhon.out.step x
      have hq' := HQ.out.do x
      have hdo := do_any Hnet.out HF'.out HQ.out x hxm
      rw [Stp.val] at hdo
      obtain ⟨r, S', hrs⟩ : ∃ r S', nDo S x = (r, S') := ⟨_, _, rfl⟩
      rw [hrs] at hdo hstep hkn hq'
      simp only at hdo hstep hkn hq'
      rw [Rst.val] at hdo
      have Hdo := Lib.hid hdo
      have Hstep := Lib.hid hstep
      have Hkn := Lib.hid hkn
      have HQ' := Lib.hid hq'
      clear hdo hstep hkn hq' hrs
      go_wp2_with fail
      refine Hdo.out.mono ?_
      rintro e w4 ⟨rfl, hn4, hf4⟩
      have Hn4 := Lib.hid hn4
      have Hf4 := Lib.hid hf4
      clear hn4 hf4
      obtain ⟨y0, y1, y2⟩ := r
      have hrow4 : Row (w4.alloc (.cells #[.int .i64 y0, .string y1, .bool y2] 42)) 3 u8 ((hs.map (·.2)).flatMap Rst.cells) :=
        (Hrow.out.fr Hf4.out (fun j hj => (Hown.out j hj).2)).fr ((Fr.refl None' _).alloc _) (fun _ _ h => h)
      have hrd4 : ReadsAs (w4.alloc (.cells #[.int .i64 y0, .string y1, .bool y2] 42)) (some ⟨w4.heap.size, 0, none⟩) [.int .i64 y0, .string y1, .bool y2] := reads_row (heap_alloc_new w4 _)
      have hone : ∀ u ∈ [Value.int .i64 y0, .string y1, .bool y2], u.oneCell' = true := by intro u hu; simp at hu; rcases hu with rfl | rfl | rfl <;> rfl
      have hhs : hs.length = k := by have := congrArg List.length Hmap.out; have := Hn.out; simp at *; omega
      have Hrow4 := Lib.hid hrow4
      have Hrd4 := Lib.hid hrd4
      have Hone := Lib.hid hone
      have Hhs := Lib.hid hhs
      clear hrow4 hrd4 hone hhs
      go_wp2_with (at_builtin; refine wpList_append_row _ rfl _ _ 51 42 rfl (.agg #[.int .i64 0, .string ⟨#[]⟩, .bool false]) 3 32 Try.underlying51 info42 rfl (by decide) u8 ((hs.map (·.2)).flatMap Rst.cells) rfl Hrow4.out (some ⟨w4.heap.size, 0, none⟩) 1 1 [.int .i64 y0, .string y1, .bool y2] rfl rfl Hrd4.out Hone.out ?h4 ?h5 ?_)
      case h4 => rw [flat_length _ 3 Rst.cells_len, List.length_map, Hhs.out]; simp; omega
      case h5 => rw [flat_length _ 3 Rst.cells_len, List.length_map, Hhs.out]; show (k * 3 + 3) / 3 * 32 ≤ _; omega
      intro v6 w6 hr6 hg6 hb6
      have hnx : HonRel w1 w1.heap.size g l (k + 1) v6 w6 := hon_next Hn4.out Hf4.out HQ'.out Hstep.out Hmap.out Hx.out HF.out Hown.out hB Hfr.out hr6 hg6 hb6 (fun j hj => Hrow.out.lt hj) rfl
      obtain ⟨g6, off6, c6, rfl, hrd6⟩ := hon_read (r := ⟨y0, y1, y2⟩) (x := x) (hs := hs) hr6 Hhs.out (by omega)
      have hx6 : (hs ++ [(x, (⟨y0, y1, y2⟩ : Rst))])[k]? = some (x, ⟨y0, y1, y2⟩) := by rw [← Hhs.out]; simp
      obtain ⟨d0, d1, d2⟩ := RdR.get hrd6 (k := k) (x := ⟨y0, y1, y2⟩) (by rw [List.getElem?_map, hx6]; rfl)
      have hl6 := Hl.out.fr0 (Hf1.out.trans0 (by obtain ⟨_, _, _, _, _, _, _, _, _, _, _, h⟩ := hnx; exact h))
      obtain ⟨b0, b1, b2, b3, b4, b5⟩ := RdP.get hl6 Hx.out
      have Hnx := Lib.hid hnx
      have Hrd6 := Lib.hid hrd6
      have Hl6 := Lib.hid hl6
      have Hx6 := Lib.hid hx6
      clear hr6 hg6 hb6 hnx hrd6 hl6 hx6
      by_cases hk1 : x.kind = 1 ∧ y2 = true
      · obtain ⟨hk1, rfl⟩ := hk1
        rw [hk1] at b0
        have Hk1 := Lib.hid hk1
        clear hk1
        go_wp2_with fail
        go_loopw [10, 11, 12, 13] (fun s gt kk i wr' => ∃ j : Nat, j ≤ k + 1 ∧ i = .int .i64 j ∧ s = .int .i64 (cS x.a x.b ((hs ++ [(x, (⟨y0, y1, true⟩ : Rst))]).take j)) ∧ gt = .int .i64 (cG x.a x.b ((hs ++ [(x, (⟨y0, y1, true⟩ : Rst))]).take j)) ∧ kk = .bool (kn x.a x.b y1 ((hs ++ [(x, (⟨y0, y1, true⟩ : Rst))]).take j)) ∧ Fr None' w6 wr') (fun _ _ _ i _ => k + 1 - (intOf i).toNat)
        case atStart => exact ⟨0, Nat.zero_le _, rfl, rfl, rfl, rfl, Fr.refl _ _⟩
        case round =>
          obtain ⟨j, hj, rfl, rfl, rfl, rfl, hf7⟩ := hrel
          have Hf7 := Lib.hid hf7
          clear hf7
          by_cases hjk : j ≤ k
          · obtain ⟨⟨yk, ya, yb, yt, yl, yg⟩, ⟨se, st, so⟩, hy, hly, htk⟩ := hon_get (r := ⟨y0, y1, true⟩) Hmap.out Hx.out Hhs.out hjk
            have hjkI : (j : Int) ≤ (k : Int) := by omega
            have hjnI : (j : Int) < (n : Int) := by omega
            have hjk1 : (j : Int) < (k : Int) + 1 := by omega
            have hj0 : (0 : Int) ≤ (j : Int) := by omega
            obtain ⟨f0, f1, f2, f3, f4, f5⟩ := RdP.get (Hl6.out.fr0 Hf7.out) hly
            obtain ⟨e0, e1, e2, e3, e4, e5⟩ := RdP.get (Hl6.out.fr0 Hf7.out) Hx.out
            obtain ⟨d0, d1, d2⟩ := RdR.get (Hrd6.out.fr0 Hf7.out) (k := j) (x := ⟨se, st, so⟩) (by rw [List.getElem?_map, hy]; rfl)
            obtain ⟨z0, z1, z2⟩ := RdR.get (Hrd6.out.fr0 Hf7.out) (k := k) (x := ⟨y0, y1, true⟩) (by rw [List.getElem?_map, Hx6.out]; rfl)
            simp only at f0 f1 f2 f3 f4 f5
            have hwS := wrap_nat (cS x.a x.b ((hs ++ [(x, (⟨y0, y1, true⟩ : Rst))]).take j)) (Nat.le_trans (cS_le _ _ _) (by rw [List.length_take]; omega))
            have hwG := wrap_nat (cG x.a x.b ((hs ++ [(x, (⟨y0, y1, true⟩ : Rst))]).take j)) (Nat.le_trans (cG_le _ _ _) (by rw [List.length_take]; omega))
            have Htk := Lib.hid htk
            clear hy hly htk hjk
            cases ha : (ya == x.a) with
            | false =>
              have ha' : (ya != x.a) = true := by rw [bne, ha]; rfl
              go_wp2_with fail
              go_quiet (fail)
              go_wp2_with fail
              all_goals exact ⟨⟨j + 1, by omega, by go_num, by rw [Htk.out, cS_snoc]; simp [hwS, sentP, ha], by rw [Htk.out, cG_snoc]; simp [hwG, gotP, ha], by rw [Htk.out, kn_snoc]; simp [hwS, sentP, ha], Hf7.out.drewN _⟩, by simp [intOf]; omega⟩
            | true =>
              have ha' : (ya != x.a) = false := by rw [bne, ha]; rfl
              cases hb : (yb == x.b) with
              | false =>
                have hb' : (yb != x.b) = true := by rw [bne, hb]; rfl
                go_wp2_with fail
                go_quiet (fail)
                go_wp2_with fail
                all_goals exact ⟨⟨j + 1, by omega, by go_num, by rw [Htk.out, cS_snoc]; simp [hwS, sentP, ha, hb], by rw [Htk.out, cG_snoc]; simp [hwG, gotP, ha, hb], by rw [Htk.out, kn_snoc]; simp [hwS, sentP, ha, hb], Hf7.out.drewN _⟩, by simp [intOf]; omega⟩
              | true =>
                have hb' : (yb != x.b) = false := by rw [bne, hb]; rfl
                by_cases hk0 : yk = 0
                · subst hk0
                  cases he : (se == 0) with
                  | false =>
                    go_wp2_with fail
                    go_quiet (fail)
                    go_wp2_with fail
                    all_goals exact ⟨⟨j + 1, by omega, by go_num, by rw [Htk.out, cS_snoc]; simp [hwS, sentP, ha, hb, he], by rw [Htk.out, cG_snoc]; simp [hwG, gotP, ha, hb, he], by rw [Htk.out, kn_snoc]; simp [hwS, sentP, ha, hb, he], Hf7.out.drewN _⟩, by simp [intOf]; omega⟩
                  | true =>
                    cases hkj : kn x.a x.b y1 ((hs ++ [(x, (⟨y0, y1, true⟩ : Rst))]).take j) with
                    | true =>
                      go_wp2_with fail
                      go_quiet (fail)
                      go_wp2_with fail
                      go_quiet (fail)
                      go_wp2_with fail
                      all_goals exact ⟨⟨j + 1, by omega, by go_num, by rw [Htk.out, cS_snoc]; simp [hwS, sentP, ha, hb, he, hkj], by rw [Htk.out, cG_snoc]; simp [hwG, gotP, ha, hb, he, hkj], by rw [Htk.out, kn_snoc]; simp [hwS, sentP, ha, hb, he, hkj], Hf7.out.drewN _⟩, by simp [intOf]; omega⟩
                    | false =>
                      cases ht : (yt.toList == y1.toList) with
                      | false =>
                        have htd : ¬ yt = y1 := fun h => by rw [h, beq_same] at ht; cases ht
                        go_wp2_with fail
                        go_quiet (fail)
                        go_wp2_with fail
                        go_quiet (fail)
                        go_wp2_with fail
                        all_goals exact ⟨⟨j + 1, by omega, by go_num, by rw [Htk.out, cS_snoc]; simp [hwS, sentP, ha, hb, he, hkj, htd], by rw [Htk.out, cG_snoc]; simp [hwG, gotP, ha, hb, he, hkj, htd], by rw [Htk.out, kn_snoc]; simp [hwS, sentP, ha, hb, he, hkj, htd], Hf7.out.drewN _⟩, by simp [intOf]; omega⟩
                      | true =>
                        have htd : yt = y1 := toList_inj (by simpa using ht)
                        go_wp2_with fail
                        go_quiet (fail)
                        go_wp2_with fail
                        go_quiet (fail)
                        go_wp2_with fail
                        all_goals exact ⟨⟨j + 1, by omega, by go_num, by rw [Htk.out, cS_snoc]; simp [hwS, sentP, ha, hb, he, hkj, htd], by rw [Htk.out, cG_snoc]; simp [hwG, gotP, ha, hb, he, hkj, htd], by rw [Htk.out, kn_snoc]; simp [hwS, sentP, ha, hb, he, hkj, htd], Hf7.out.drewN _⟩, by simp [intOf]; omega⟩
                · have hk0' : (yk == 0) = false := by simpa using hk0
                  by_cases hk1 : yk = 1
                  · subst hk1
                    cases so with
                    | false =>
                      go_wp2_with fail
                      go_quiet (fail)
                      go_wp2_with fail
                      all_goals exact ⟨⟨j + 1, by omega, by go_num, by rw [Htk.out, cS_snoc]; simp [hwS, sentP, ha, hb], by rw [Htk.out, cG_snoc]; simp [hwG, gotP, ha, hb], by rw [Htk.out, kn_snoc]; simp [hwS, sentP, ha, hb], Hf7.out.drewN _⟩, by simp [intOf]; omega⟩
                    | true =>
                      cases yg with
                      | true =>
                        go_wp2_with fail
                        go_quiet (fail)
                        go_wp2_with fail
                        all_goals exact ⟨⟨j + 1, by omega, by go_num, by rw [Htk.out, cS_snoc]; simp [hwS, sentP, ha, hb], by rw [Htk.out, cG_snoc]; simp [hwG, gotP, ha, hb], by rw [Htk.out, kn_snoc]; simp [hwS, sentP, ha, hb], Hf7.out.drewN _⟩, by simp [intOf]; omega⟩
                      | false =>
                        go_wp2_with fail
                        go_quiet (fail)
                        go_wp2_with fail
                        all_goals exact ⟨⟨j + 1, by omega, by go_num, by rw [Htk.out, cS_snoc]; simp [hwS, sentP, ha, hb], by rw [Htk.out, cG_snoc]; simp [hwG, gotP, ha, hb], by rw [Htk.out, kn_snoc]; simp [hwS, sentP, ha, hb], Hf7.out.drewN _⟩, by simp [intOf]; omega⟩
                  · have hk1' : (yk == 1) = false := by simpa using hk1
                    go_wp2_with fail
                    go_quiet (fail)
                    go_wp2_with fail
                    all_goals exact ⟨⟨j + 1, by omega, by go_num, by rw [Htk.out, cS_snoc]; simp [hwS, sentP, ha, hb, hk0', hk1', hk0, hk1], by rw [Htk.out, cG_snoc]; simp [hwG, gotP, ha, hb, hk0', hk1', hk0, hk1], by rw [Htk.out, kn_snoc]; simp [hwS, sentP, ha, hb, hk0', hk1', hk0, hk1], Hf7.out.drewN _⟩, by simp [intOf]; omega⟩
          · obtain rfl : j = k + 1 := by omega
            have hfull : (hs ++ [(x, (⟨y0, y1, true⟩ : Rst))]).take (k + 1) = hs ++ [(x, (⟨y0, y1, true⟩ : Rst))] := List.take_of_length_le (by simp [Hhs.out])
            have hkn := Hkn.out Hk1.out trivial
            have hle := Hstep.out.le x.a x.b
            rw [hfull, hkn]
            have hleI : ((cG x.a x.b (hs ++ [(x, (⟨y0, y1, true⟩ : Rst))]) : Nat) : Int) ≤ ((cS x.a x.b (hs ++ [(x, (⟨y0, y1, true⟩ : Rst))]) : Nat) : Int) := by omega
            have hlt1 : ¬ (((k + 1 : Nat) : Int) ≤ (k : Int)) := by omega
            clear hkn hfull hle hjk
            go_wp2_with fail
            all_goals exact ⟨⟨k + 1, by omega, by go_num, Hnx.out.fr0 Hf7.out⟩, by simp [intOf]; omega⟩
      · have hk1' : (x.kind == 1) = false ∨ (x.kind == 1) = true ∧ y2 = false := by
          by_cases h : x.kind = 1
          · exact .inr ⟨by simp [h], by cases y2 with | false => rfl | true => exact absurd ⟨h, rfl⟩ hk1⟩
          · exact .inl (by simpa using h)
        clear hk1
        rcases hk1' with h | ⟨h, rfl⟩
        · have h' : (x.kind != 1) = true := by rw [bne, h]; rfl
          go_wp2_with fail
          all_goals exact ⟨⟨k + 1, by omega, by go_num, Hnx.out⟩, by simp [intOf]; omega⟩
        · have h' : (x.kind != 1) = false := by rw [bne, h]; rfl
          go_wp2_with fail
          all_goals exact ⟨⟨k + 1, by omega, by go_num, Hnx.out⟩, by simp [intOf]; omega⟩
    · obtain rfl : k = n := by omega
      go_wp2_with fail
      go_ret
      exact ⟨rfl, Hf1.out.trans0 Hfr.out⟩

theorem netHonest_few {l : List Stp} (nodes : Int) (vl : Value) (w : World) (hl : RdP w vl l) (hm : ∀ x ∈ l, x.text.size ≤ 9223372036854775807) (hN1 : 1 ≤ nodes) (hN2 : nodes ≤ 8) (hfew : fewB l = false) :
    Calls Try.prog 7 #[.int .i64 nodes, vl] w fun e w' => e = .returned (.bool true) ∧ Fr None' w w' := by
  obtain ⟨A, n, cap, rfl⟩ : ∃ A n cap, vl = .slice A n cap := by obtain ⟨A, n, cap, h, _⟩ := id hl; exact ⟨A, n, cap, h⟩
  have Hm := Lib.hid hm
  have Hl := Lib.hid hl
  have Hfew := Lib.hid hfew
  clear hm hl hfew
  go_enter Try.func7, Try.ntmps7
  go_wp2_with fail
  refine (head_any w).mono ?_
  rintro e w1 ⟨rfl, hf1⟩
  have Hf1 := Lib.hid hf1
  clear hf1
  go_wp2_with fail
  refine (s_new nodes w1 hN1 hN2).mono ?_
  rintro e w2 ⟨g, rfl, hn2, hf2⟩
  have Hf2 := Lib.hid hf2
  clear hn2 hf2
  go_wp2_with fail
  refine (few_any (Hl.out.fr0 (Hf1.out.trans0 Hf2.out)) Hm.out).mono ?_
  rw [Hfew.out]
  rintro e w3 ⟨rfl, rfl⟩
  go_wp2_with fail
  go_ret
  exact ⟨rfl, Hf1.out.trans0 Hf2.out⟩
theorem netHonest_bad {l : List Stp} (nodes : Int) (vl : Value) (w : World) (hl : RdP w vl l) (hm : ∀ x ∈ l, x.text.size ≤ 9223372036854775807) (hN : nodes < 1 ∨ 8 < nodes) (b : Bool) (hfew : fewB l = b) :
    Calls Try.prog 7 #[.int .i64 nodes, vl] w fun e w' => e = .returned (.bool true) ∧ Fr None' w w' := by
  obtain ⟨A, n, cap, rfl⟩ : ∃ A n cap, vl = .slice A n cap := by obtain ⟨A, n, cap, h, _⟩ := id hl; exact ⟨A, n, cap, h⟩
  have Hm := Lib.hid hm
  have Hl := Lib.hid hl
  have Hfew := Lib.hid hfew
  have HN := Lib.hid hN
  clear hm hl hfew hN
  go_enter Try.func7, Try.ntmps7
  go_wp2_with fail
  refine (head_any w).mono ?_
  rintro e w1 ⟨rfl, hf1⟩
  have Hf1 := Lib.hid hf1
  clear hf1
  go_wp2_with fail
  refine (s_new_bad nodes w1 HN.out).mono ?_
  rintro e w2 ⟨rfl, hf2⟩
  have Hf2 := Lib.hid hf2
  clear hf2
  go_wp2_with fail
  refine (few_any (Hl.out.fr0 (Hf1.out.trans0 Hf2.out)) Hm.out).mono ?_
  rw [Hfew.out]
  rintro e w3 ⟨rfl, rfl⟩
  cases b with
  | true =>
    go_wp2_with fail
    go_ret
    exact ⟨rfl, Hf1.out.trans0 Hf2.out⟩
  | false =>
    go_wp2_with fail
    go_ret
    exact ⟨rfl, Hf1.out.trans0 Hf2.out⟩
open Go.ChangeShapes Go.WideShapes in
theorem open_steps {H : Type} {enc : TypeId × Value → H} (W : World) {b0 : Nat} {v : Value} {d : DataW H} {p : List MemPlace}
    (o : Value.okWide Try.prog W .any b0 36 v) (k : DataW.Trod enc Try.prog W 0 (fun _ => true) true 36 v d p) (z : (d.weights Try.prog 36).all (· ≤ reachBytes) = true) :
    ∃ l, RdP W v l ∧ ∀ x ∈ l, x.text.size ≤ 9223372036854775807 := by
  obtain ⟨l, hl, hm⟩ := open_list 6 48 Stp.cells (fun a => a.text.size ≤ maxLen ∧ (Lit.int .i64 a.kind).wf = true) Try.underlying36 (by kernel_rfl) (by decide) (by kernel_rfl) (by decide) elem_step o k z
  exact ⟨l, hl, fun x hx => by have := (hm x hx).1; simpa [maxLen] using this⟩
open Go.ChangeShapes Go.WideShapes in
theorem netHonest_walk {H : Type} {enc : TypeId × Value → H} (W : World) {b0 : Nat} {v1 : Value} {d1 : DataW H} {p1 : List MemPlace} (a0 : Int) (w0 : (Lit.int .i64 a0).wf = true)
    (o1 : Value.okWide Try.prog W .any b0 36 v1) (k1 : DataW.Trod enc Try.prog W 0 (fun _ => true) true 36 v1 d1 p1) (z1 : (d1.weights Try.prog 36).all (· ≤ reachBytes) = true) :
    Calls Try.prog 7 #[.int .i64 a0, v1] W fun e w' => e = .returned (.bool true) ∧ Below W.heap.size W w' := by
  obtain ⟨l, hl, hm⟩ := open_steps W o1 k1 z1
  have fin : ∀ e w', e = Ending.returned (.bool true) ∧ Fr None' W w' → e = .returned (.bool true) ∧ Below W.heap.size W w' := fun e w' ⟨he, hf⟩ => ⟨he, hf.below (fun _ h => h.elim) (Nat.le_refl _)⟩
  by_cases hN : a0 < 1 ∨ 8 < a0
  · exact (netHonest_bad a0 v1 W hl hm hN _ rfl).mono fin
  · cases hf : fewB l with
    | true => exact (netHonest_any a0 v1 W hl hm (by omega) (by omega) hf).mono fin
    | false => exact (netHonest_few a0 v1 W hl hm (by omega) (by omega) hf).mono fin
end Go.Proofs.Ytdgcimjpggjnjaa

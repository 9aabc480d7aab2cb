/- The reference network: memory, pair, cut, Waiting. -/
import Derived.Test.YtdgcimjpggjnjaaNhead
import Derived.Test.YtdgcimjpggjnjaaRdl
import Derived.Test.YtdgcimjpggjnjaaRow2
import Derived.Test.YtdgcimjpggjnjaaNdo
set_option linter.unusedVariables false
set_option linter.unusedSimpArgs false
namespace Go.Proofs.Ytdgcimjpggjnjaa
open Go.RowKit

structure Msg where
  a : Int
  b : Int
  t : ByteArray
def Msg.cells (m : Msg) : List Value := [.int .i64 m.a, .int .i64 m.b, .string m.t]
theorem Msg.cells_len (m : Msg) : m.cells.length = 3 := rfl
def lcells (p : Int × Int) : List Value := [.int .i64 p.1, .int .i64 p.2]
theorem lcells_len (p : Int × Int) : (lcells p).length = 2 := rfl
structure RS where
  N : Int
  L : List Msg
  G : List (Int × Int)
def lineB (a b : Int) (p : Int × Int) : Bool := (p.1 == a && p.2 == b) || (p.1 == b && p.2 == a)
def cutN (G : List (Int × Int)) (a b : Int) : Option Nat := G.findIdx? (lineB a b)
def cutI (G : List (Int × Int)) (a b : Int) : Int := match cutN G a b with | some k => k | none => -1
def toB (a b : Int) (m : Msg) : Bool := m.a == a && m.b == b
def rTexts (L : List Msg) (a b : Int) : List ByteArray := (L.filter (toB a b)).map (·.t)
def rWait (S : RS) (a b : Int) : List ByteArray := if knowsB S.N a b then rTexts S.L a b else []

/-- In memory. -/
structure RefAt (w : World) (F : Nat → Prop) (g : Nat) (S : RS) (vL vG : Value) : Prop where
  obj : w.heap[g]? = some (.cells #[.int .i64 S.N, vL, vG] 64)
  fg : F g
  rl : Row w 3 vL (S.L.flatMap Msg.cells)
  rg : Row w 2 vG (S.G.flatMap lcells)
  ol : ∀ k, rowBlk vL = some k → F k ∧ k ≠ g
  og : ∀ k, rowBlk vG = some k → F k ∧ k ≠ g ∧ rowBlk vL ≠ some k
  bl : S.L.length ≤ 1000
  bg : S.G.length ≤ 1000
def RefIs (w : World) (F : Nat → Prop) (g : Nat) (S : RS) : Prop := ∃ vL vG, RefAt w F g S vL vG
theorem RefAt.fr {w w' : World} {F H : Nat → Prop} {g : Nat} {S : RS} {vL vG : Value} (h : RefAt w F g S vL vG) (hf : Fr H w w') (hd : ∀ k, F k → ¬ H k) : RefAt w' F g S vL vG :=
  ⟨hf.heap h.obj (hd _ h.fg), h.fg, h.rl.fr hf (fun k hk => hd k (h.ol k hk).1), h.rg.fr hf (fun k hk => hd k (h.og k hk).1), h.ol, h.og, h.bl, h.bg⟩
theorem RefIs.fr {w w' : World} {F H : Nat → Prop} {g : Nat} {S : RS} (h : RefIs w F g S) (hf : Fr H w w') (hd : ∀ k, F k → ¬ H k) : RefIs w' F g S := by
  obtain ⟨vL, vG, h⟩ := h; exact ⟨vL, vG, h.fr hf hd⟩
theorem RefIs.mono {w : World} {F H : Nat → Prop} {g : Nat} {S : RS} (h : RefIs w F g S) (hF : ∀ k, F k → H k) : RefIs w H g S := by
  obtain ⟨vL, vG, h⟩ := h
  exact ⟨vL, vG, h.obj, hF _ h.fg, h.rl, h.rg, fun k hk => ⟨hF _ (h.ol k hk).1, (h.ol k hk).2⟩, fun k hk => ⟨hF _ (h.og k hk).1, (h.og k hk).2⟩, h.bl, h.bg⟩
theorem RefAt.cells {w : World} {F : Nat → Prop} {g : Nat} {S : RS} {vL vG : Value} (h : RefAt w F g S vL vG) :
    w.cell? ⟨g, 0, none⟩ = some (.int .i64 S.N) ∧ w.cell? ⟨g, 1, none⟩ = some vL ∧ w.cell? ⟨g, 2, none⟩ = some vG ∧ (∀ o, w.frozen? ⟨g, o, none⟩ = false) := three_cells h.obj
abbrev RdM (w : World) (v : Value) (L : List Msg) : Prop := RdL Msg.cells 3 w v L
abbrev RdG (w : World) (v : Value) (G : List (Int × Int)) : Prop := RdL lcells 2 w v G
theorem RefAt.rdM {w : World} {F : Nat → Prop} {g : Nat} {S : RS} {vL vG : Value} (h : RefAt w F g S vL vG) : RdM w vL S.L := h.rl.rdL Msg.cells Msg.cells_len (by decide) (by have := h.bl; omega)
theorem RefAt.rdG {w : World} {F : Nat → Prop} {g : Nat} {S : RS} {vL vG : Value} (h : RefAt w F g S vL vG) : RdG w vG S.G := h.rg.rdL lcells lcells_len (by decide) (by have := h.bg; omega)
theorem RdG.get {w : World} {A : Option Addr} {n cap : Nat} {G : List (Int × Int)} (h : RdG w (.slice A n cap) G) {k : Nat} {p : Int × Int} (hx : G[k]? = some p) :
    ∃ g off, A = some ⟨g, off, none⟩ ∧ g < w.heap.size ∧ w.cell? ⟨g, off + k * 2, none⟩ = some (.int .i64 p.1) ∧ w.cell? ⟨g, off + k * 2 + 1, none⟩ = some (.int .i64 p.2) := by
  obtain ⟨A', n', cap', he, hn, hl, h0⟩ := h
  cases he
  have hk : k < G.length := (List.getElem?_eq_some_iff.1 hx).1
  obtain ⟨g', off', rfl, hc⟩ := h0 (by omega)
  exact ⟨g', off', rfl, World.block_lt_of_cell? _ _ (hc k p hx 0 _ rfl), hc k p hx 0 _ rfl, hc k p hx 1 _ rfl⟩
theorem RdM.get {w : World} {A : Option Addr} {n cap : Nat} {L : List Msg} (h : RdM w (.slice A n cap) L) {k : Nat} {m : Msg} (hx : L[k]? = some m) :
    ∃ g off, A = some ⟨g, off, none⟩ ∧ g < w.heap.size ∧ w.cell? ⟨g, off + k * 3, none⟩ = some (.int .i64 m.a) ∧ w.cell? ⟨g, off + k * 3 + 1, none⟩ = some (.int .i64 m.b) ∧ w.cell? ⟨g, off + k * 3 + 2, none⟩ = some (.string m.t) := by
  obtain ⟨A', n', cap', he, hn, hl, h0⟩ := h
  cases he
  have hk : k < L.length := (List.getElem?_eq_some_iff.1 hx).1
  obtain ⟨g', off', rfl, hc⟩ := h0 (by omega)
  exact ⟨g', off', rfl, World.block_lt_of_cell? _ _ (hc k m hx 0 _ rfl), hc k m hx 0 _ rfl, hc k m hx 1 _ rfl, hc k m hx 2 _ rfl⟩
theorem RdL.len {α : Type} {f : α → List Value} {size : Nat} {w : World} {v : Value} {xs : List α} (h : RdL f size w v xs) : ∃ A n cap, v = .slice A n cap ∧ n = xs.length := by
  obtain ⟨A, n, cap, rfl, hn, _⟩ := h; exact ⟨A, n, cap, rfl, hn⟩

theorem pair_ok (N a b : Int) (g : Nat) (w : World) (hg : w.cell? ⟨g, 0, none⟩ = some (.int .i64 N)) : Calls Try.prog 30 #[.pointer (some ⟨g, 0, none⟩), .int .i64 a, .int .i64 b] w fun e w' => e = .returned (.bool (knowsB N a b)) ∧ w' = w := by
  by_cases h1 : a < 0
  · have hk : knowsB N a b = false := by simp [knowsB, badB, h1]
    rw [hk]
    go_enter Try.func30, Try.ntmps30
    go_wp2_with fail
    go_ret
    exact ⟨rfl, rfl⟩
  · by_cases h2 : a < N
    · by_cases h3 : b < 0
      · have hk : knowsB N a b = false := by simp [knowsB, badB, h3]
        rw [hk]
        have h1' : (0 : Int) ≤ a := by omega
        go_enter Try.func30, Try.ntmps30
        go_wp2_with fail
        go_ret
        exact ⟨rfl, rfl⟩
      · by_cases h4 : b < N
        · have hk : knowsB N a b = (a != b) := by
            have e1 : badB N a = false := by simp [badB]; omega
            have e2 : badB N b = false := by simp [badB]; omega
            rw [knowsB, e1, e2]
            by_cases h : a = b <;> simp [h]
          rw [hk]
          have h1' : (0 : Int) ≤ a := by omega
          have h3' : (0 : Int) ≤ b := by omega
          go_enter Try.func30, Try.ntmps30
          go_wp2_with fail
          go_ret
          exact ⟨rfl, rfl⟩
        · have hk : knowsB N a b = false := by
            have e2 : badB N b = true := by simp [badB]; omega
            rw [knowsB, e2]; simp
          rw [hk]
          have h1' : (0 : Int) ≤ a := by omega
          have h3' : (0 : Int) ≤ b := by omega
          go_enter Try.func30, Try.ntmps30
          go_wp2_with fail
          go_ret
          exact ⟨rfl, rfl⟩
    · have hk : knowsB N a b = false := by
        have e2 : badB N a = true := by simp [badB]; omega
        rw [knowsB, e2]; simp
      rw [hk]
      have h1' : (0 : Int) ≤ a := by omega
      go_enter Try.func30, Try.ntmps30
      go_wp2_with fail
      go_ret
      exact ⟨rfl, rfl⟩

theorem cut_hit {G : List (Int × Int)} {a b : Int} {k : Nat} {p : Int × Int} (h : ∀ x ∈ G.take k, lineB a b x = false) (hp : G[k]? = some p) (hb : lineB a b p = true) : cutI G a b = k := by
  have hk : k < G.length := (List.getElem?_eq_some_iff.1 hp).1
  have : cutN G a b = some k := by
    rw [cutN, List.findIdx?_eq_some_iff_getElem]
    refine ⟨hk, ?_, fun j hj => ?_⟩
    · rw [List.getElem?_eq_getElem hk] at hp
      cases hp
      exact hb
    · have := h G[j] (by rw [List.mem_take_iff_getElem]; exact ⟨j, by omega, rfl⟩)
      simp [this]
  rw [cutI, this]
theorem cut_miss {G : List (Int × Int)} {a b : Int} (h : ∀ x ∈ G, lineB a b x = false) : cutI G a b = -1 := by
  have : cutN G a b = none := by
    rw [cutN, List.findIdx?_eq_none_iff]
    exact h
  rw [cutI, this]
theorem rcut_any {w : World} {F : Nat → Prop} {g : Nat} {S : RS} (hr : RefIs w F g S) (a b : Int) :
    Calls Try.prog 34 #[.pointer (some ⟨g, 0, none⟩), .int .i64 a, .int .i64 b] w fun e w' => e = .returned (.int .i64 (cutI S.G a b)) ∧ Fr None' w w' := by
  obtain ⟨vL, vG, h⟩ := hr
  obtain ⟨A, n, cap, rfl, hn⟩ := h.rdG.len
  obtain ⟨c0, c1, c2, _⟩ := h.cells
  have hn1 : n ≤ 1000 := by have := h.bg; omega
  have H := Lib.hid h
  have Hn := Lib.hid hn
  clear h hn
  go_enter Try.func34, Try.ntmps34
  go_wp2_with fail
  go_loopw [7] (fun i wr => ∃ k : Nat, k ≤ n ∧ i = .int .i64 k ∧ (∀ x ∈ S.G.take k, lineB a b x = false) ∧ Fr None' w wr) (fun i _ => n - (intOf i).toNat)
  case atStart => exact ⟨0, Nat.zero_le _, rfl, by simp, Fr.refl _ _⟩
  case round =>
    obtain ⟨k, hk, rfl, hall, hf⟩ := hrel
    have e2 := hf.cell c2 (fun h => h)
    have Hf := Lib.hid hf
    have Hall := Lib.hid hall
    by_cases hlt : k < n
    · obtain ⟨⟨px, py⟩, hp⟩ : ∃ p, S.G[k]? = some p := ⟨_, List.getElem?_eq_getElem (by rw [← Hn.out]; exact hlt)⟩
      obtain ⟨gl, off, rfl, hgl, f0, f1⟩ := RdG.get (H.out.rdG.fr0 hf) hp
      have Hp := Lib.hid hp
      have hki : (k : Int) < (n : Int) := by omega
      simp only at f0 f1
      clear hp hf hall hk
      have step : lineB a b (px, py) = false → ∀ x ∈ S.G.take (k + 1), lineB a b x = false := fun hl x hx => by
        rw [List.take_add_one, Hp.out] at hx
        simp at hx
        rcases hx with hx | rfl
        · exact Hall.out x hx
        · exact hl
      have Step := Lib.hid step
      clear step
      cases ha : (px == a) with
      | true =>
        cases hb : (py == b) with
        | true =>
          go_wp2_with fail
          go_ret
          exact ⟨by rw [cut_hit Hall.out Hp.out (by simp [lineB, ha, hb])]; rfl, Hf.out.alloc _⟩
        | false =>
          cases ha' : (px == b) with
          | true =>
            cases hb' : (py == a) with
            | true =>
              go_wp2_with fail
              go_ret
              exact ⟨by rw [cut_hit Hall.out Hp.out (by simp [lineB, ha', hb'])]; rfl, Hf.out.alloc _⟩
            | false =>
              go_wp2_with fail
              all_goals exact ⟨⟨k + 1, by omega, by go_num, Step.out (by simp [lineB, hb, hb']), Hf.out.alloc _⟩, by simp [intOf]; omega⟩
          | false =>
            go_wp2_with fail
            all_goals exact ⟨⟨k + 1, by omega, by go_num, Step.out (by simp [lineB, hb, ha']), Hf.out.alloc _⟩, by simp [intOf]; omega⟩
      | false =>
        cases ha' : (px == b) with
        | true =>
          cases hb' : (py == a) with
          | true =>
            go_wp2_with fail
            go_ret
            exact ⟨by rw [cut_hit Hall.out Hp.out (by simp [lineB, ha', hb'])]; rfl, Hf.out.alloc _⟩
          | false =>
            go_wp2_with fail
            all_goals exact ⟨⟨k + 1, by omega, by go_num, Step.out (by simp [lineB, ha, hb']), Hf.out.alloc _⟩, by simp [intOf]; omega⟩
        | false =>
          go_wp2_with fail
          all_goals exact ⟨⟨k + 1, by omega, by go_num, Step.out (by simp [lineB, ha, ha']), Hf.out.alloc _⟩, by simp [intOf]; omega⟩
    · have hm : cutI S.G a b = -1 := cut_miss (by rw [List.take_of_length_le (by rw [← Hn.out]; omega)] at hall; exact hall)
      have hki : ¬ (k : Int) < (n : Int) := by omega
      have Hm := Lib.hid hm
      clear hm hall hf
      go_wp2_with fail
      go_ret
      exact ⟨by rw [Hm.out]; rfl, Hf.out⟩
end Go.Proofs.Ytdgcimjpggjnjaa

/- The reference of chapter 36: Give whole. -/
import Derived.Test.YtdjaofkbgkifkaaE38
set_option linter.unusedVariables false
set_option linter.unusedSimpArgs false
namespace Go.Proofs.Ytdjaofkbgkifkaa
open Go.RowKit

theorem rgive_ok {U : Int} {t : Nat} {w : World} {F : Nat → Prop} {g : Nat} {S : ES} (h : RefIs w F g S) (hU : U ≤ 1000000000) (hI : Inv U t S) (ht : t ≤ 1000000) (i j k : Int) :
    Calls Try.prog 78 #[.pointer (some ⟨g, 0, none⟩), .int .i64 i, .int .i64 j, .int .i64 k] w (RPost w F g (.int .i64 (eGive S i j k).1) (eGive S i j k).2) := by
  have h0 := h
  obtain ⟨ρ, vU, vS, vR, vP, vr, vT, vM, mz, h, hF⟩ := h
  obtain ⟨c0, _⟩ := h.cells
  by_cases hn : pairB S.acc.length i j = false ∨ k < 1
  · have e : eGive S i j k = (1, S) := by unfold eGive; rw [if_pos hn]
    rw [e]
    obtain ⟨A, cap, rfl⟩ := arr_form ucell_len h.un
    exact (rgive_arg c0 i j k hn).mono fun _ _ he => RPost.same h0 he
  · have hp : pairB S.acc.length i j = true := by cases e : pairB S.acc.length i j with | true => rfl | false => exact absurd (.inl e) hn
    have hk : 1 ≤ k := by omega
    obtain ⟨a, b, rfl, rfl, ha, hb, hne⟩ := pairB_nat hp
    have hok := hI.sh.ok hp
    by_cases hu : (S.ac a).u < k
    · have e : eGive S a b k = (19, S) := by unfold eGive; rw [if_neg hn, if_pos hu]
      rw [e]
      exact (rgive_quota h ha hb hne k hk hu).mono fun _ _ he => RPost.same h0 he
    · by_cases hq : (S.ln a b).conf + 100 ≤ (S.ln a b).all.length
      · have e : eGive S a b k = (28, S) := by unfold eGive; rw [if_neg hn, if_neg hu, if_pos hq]
        rw [e]
        refine (rgive_full h ha hb hne k hk hu hq (Nat.le_trans hok.tm ht)).mono ?_
        rintro _ w' ⟨rfl, hf⟩
        exact ⟨rfl, (h0.fr hf (fun _ _ h => h)).mono (fun j hj => .inl hj), hf.mono (fun _ _ h => h.elim)⟩
      · have e : eGive S a b k = (0, (S.putA a ⟨(S.ac a).u - k, (S.ac a).s, (S.ac a).r⟩).putL a b { S.ln a b with all := (S.ln a b).all ++ [k] }) := by unfold eGive; rw [if_neg hn, if_neg hu, if_neg hq]
        rw [e]
        exact rgive_do h hF hU hI ht ha hb hne k hk hu hq
end Go.Proofs.Ytdjaofkbgkifkaa

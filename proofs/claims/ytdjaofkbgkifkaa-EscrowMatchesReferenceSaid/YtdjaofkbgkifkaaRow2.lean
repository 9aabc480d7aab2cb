/- append onto a row behind a guard. -/
import Derived.Test.YtdjaofkbgkifkaaRow
set_option linter.unusedVariables false
set_option linter.unusedSimpArgs false
namespace Go.Proofs.Ytdjaofkbgkifkaa
open Go.RowKit

theorem wpList_append_row_g {P : Program} (w : World) {ops : Array Oper} {rest : List Oper} {o : Oper} {a : Act} {Q : Exit → Act → World → Prop} (hgd : Region.wanted o (yielded ops a.tmps) = true) (s x : Operand) (t e : TypeId)
    (ho : o.op = .call { callee := .builtin .append, args := #[s, x], argTypes := #[t, t] }) (z : Value) (size bytes : Nat) (ht : P.underlying t = some (.slice e))
    (hinfo : (P.info? e).map (fun i => (i.zero, i.size, i.bytes)) = some (some z, size, bytes)) (hzs : z.cells.size = size) (hsz : 0 < size)
    (v : Value) (xs : List Value) (hs : a.eval s = v) (hv : Row w size v xs) (A : Option Addr) (m c : Nat) (news : List Value) (hx : a.eval x = .slice A m c) (hl : news.length = m * size) (hnews : ReadsAs w A news) (h1 : ∀ u ∈ news, u.oneCell' = true)
    (hlen : xs.length + news.length ≤ 9007199254740992) (hbytes : ((xs.length + news.length) / size) * bytes ≤ 140737488355328)
    (h : ∀ v' w', Row w' size v' (xs ++ news) → w.grownBy w' (rowBlk v) → (rowBlk v' = rowBlk v ∨ rowBlk v' = some w.heap.size) → wpList P ops Q rest (a.put o.dst v') w') : wpList P ops Q (o :: rest) a w := by
  unfold wpList
  rw [if_pos hgd]
  exact .inl (wp_append_row w s x t e ho z size bytes ht hinfo hzs hsz v xs hs hv A m c news hx hl hnews h1 hlen hbytes h)
end Go.Proofs.Ytdjaofkbgkifkaa

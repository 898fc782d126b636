/- A memory as an argument of a law. -/
import Derived.Test.YtmhdjnmfioaciaaLawBase
import Derived.Test.YtmhdjnmfioaciaaOpen
import Derived.Test.YtmhdjnmfioaciaaMemH
namespace Go.Proofs.Ytmhdjnmfioaciaa
open Go Go.RowKit

def MemArg (w : World) (v : Value) : Prop := ∃ (k : Int) (a : Option Addr) (n c : Nat) (l : List I3), v = .agg #[.int .i64 k, .slice a n c] ∧ n ≤ 9223372036854775807 ∧ Rd w 3 a n (c3 l)
theorem open_Mem {H : Type} {enc : TypeId × Value → H} {W : World} {r : Reach} {b0 base : Nat} {spare : Nat → Bool} {held : Bool} {v : Value} {d : DataW H} {p : List MemPlace}
    (hv : Value.okWide Try.prog W r b0 24 v) (h : DataW.Trod enc Try.prog W base spare held 24 v d p) : MemArg W v := by
  obtain ⟨v0, v1, y0, y1, n, rfl, _, _, h0, h1⟩ := Go.Joins.open_agg2 Try.underlying24 (by kernel_rfl) (by kernel_rfl) hv h
  obtain ⟨k, e0, _⟩ := op_int Try.underlying3 h0
  obtain ⟨a, n, c, l, e1, _, hn, hr⟩ := op_recs3 (TI := 3) Try.underlying22 Try.underlying75 rfl rfl Try.underlying3 (by kernel_rfl) (by kernel_rfl) h1
  simp only [List.cons.injEq, and_true] at e0 e1
  subst e0
  subst e1
  exact ⟨k, a, n, c, l, rfl, by simpa [maxLen] using hn, hr⟩
end Go.Proofs.Ytmhdjnmfioaciaa

/-
  More of the laws' arguments, opened.
-/
import Derived.Test.YtipfpckjgfjehaaF13
namespace Go.Proofs.Ytipfpckjgfjehaa
set_option linter.unusedVariables false
set_option linter.unusedSimpArgs false
open Go.ChangeShapes Go.WideShapes Go.ChangeAt Go.RowKit Go.Deep Go.Joins
open PFlowMaxSpec Go.Proofs.YtipfpckjgfjehaaW.PrintWords

section
variable {H : Type} {enc : TypeId × Value → H} {w : World} {base : Nat} {held : Bool}
/-- A network, by value; a nil list has no room. -/
theorem open_net2 {r : Reach} {b0 : Nat} {v : Value} {d : DataW H} {p : List MemPlace} (hv : Value.okWide Try.prog w r b0 24 v) (h : DataW.Trod enc Try.prog w base (fun _ => true) held 24 v d p) :
    ∃ N s t A c l, v = .agg #[.int .i64 N, .int .i64 s, .int .i64 t, .slice A (List.length l) c] ∧ l.length ≤ c ∧ k43.C w A l.length l ∧ (A = none → c = 0) := by
  have hv' := hv
  have h' := h
  obtain ⟨N, s, t, A, c, l, rfl, hl, hc⟩ := open_net hv h
  refine ⟨N, s, t, A, c, l, rfl, hl, hc, fun hA => ?_⟩
  subst hA
  obtain ⟨v0, v1, v2, v3, y0, y1, y2, y3, n, e, _, _, _, _, _, h3⟩ := open_agg4 Try.underlying24 (by kernel_rfl) (by kernel_rfl) hv' h'
  simp only [Value.agg.injEq, Array.mk.injEq, List.cons.injEq, and_true] at e
  obtain ⟨_, _, _, rfl⟩ := e
  rcases open_slice Try.underlying22 h3 with ⟨e, _⟩ | ⟨a, len, cap, m, n', D, Pl, e, _⟩
  · simp at e; exact e.2
  · simp at e
theorem open_u8 {r : Reach} {b0 : Nat} {v : Value} {d : DataW H} {p : List MemPlace} (hv : Value.okWide Try.prog w r b0 5 v) (h : DataW.Trod enc Try.prog w base (fun _ => true) held 5 v d p) : ∃ n : Int, v = .int .u8 n ∧ 0 ≤ n ∧ n ≤ 255 := by
  obtain ⟨n, e, _, _, hw⟩ := open_int (k := .u8) (by kernel_rfl) hv h
  refine ⟨n, e, ?_⟩
  simp [Lit.wf, IntKind.min, IntKind.max, IntKind.signed, IntKind.bits] at hw
  omega
theorem open_u16 {r : Reach} {b0 : Nat} {v : Value} {d : DataW H} {p : List MemPlace} (hv : Value.okWide Try.prog w r b0 45 v) (h : DataW.Trod enc Try.prog w base (fun _ => true) held 45 v d p) : ∃ n : Int, v = .int .u16 n ∧ 0 ≤ n ∧ n ≤ 65535 := by
  obtain ⟨n, e, _, _, hw⟩ := open_int (k := .u16) (by kernel_rfl) hv h
  refine ⟨n, e, ?_⟩
  simp [Lit.wf, IntKind.min, IntKind.max, IntKind.signed, IntKind.bits] at hw
  omega
end
end Go.Proofs.Ytipfpckjgfjehaa

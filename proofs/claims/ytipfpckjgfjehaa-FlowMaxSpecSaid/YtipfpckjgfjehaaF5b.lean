/-
  flow.Check, whatever the arcs' number.
-/
import Derived.Test.YtipfpckjgfjehaaF5
namespace Go.Proofs.Ytipfpckjgfjehaa
set_option linter.unusedVariables false
set_option linter.unusedSimpArgs false
open Go.RowKit PFlowMaxSpec Go.Proofs.YtipfpckjgfjehaaW.PrintWords
attribute [local go_sem] Oper.semAt_some

set_option maxHeartbeats 4000000 in
theorem check_bad (N s t : Int) (A : Option Addr) (len c : Nat) (w : World) (h : ¬ argOk N s t) :
    Calls Try.prog 15 #[.agg #[.int .i64 N, .int .i64 s, .int .i64 t, .slice A len c]] w fun e w' => e = .returned (.int .i64 1) ∧ Ch [] w w' := by
  have HH := Aside0.mk h
  clear h
  by_cases a1 : N < 2
  · have b1 : decide (N < 2) = true := by simpa using a1
    go_enter Try.func15, Try.ntmps15
    go_wp2_with (go_at_call 26; refine (vertex_calls w.heap.size N _ _ ?_).mono ?_; (focus (go_simp; done)); rintro e w' ⟨rfl, rfl⟩)
    go_ret
    exact ⟨rfl, (Ch.refl _ _).alloc _⟩
  have b1 : decide (N < 2) = false := by simpa using a1
  by_cases a2 : 64 < N
  · have b2 : decide (64 < N) = true := by simpa using a2
    go_enter Try.func15, Try.ntmps15
    go_wp2_with (go_at_call 26; refine (vertex_calls w.heap.size N _ _ ?_).mono ?_; (focus (go_simp; done)); rintro e w' ⟨rfl, rfl⟩)
    go_ret
    exact ⟨rfl, (Ch.refl _ _).alloc _⟩
  have b2 : decide (64 < N) = false := by simpa using a2
  cases a3 : inV N s with
  | false =>
    go_enter Try.func15, Try.ntmps15
    go_wp2_with (go_at_call 26; refine (vertex_calls w.heap.size N _ _ ?_).mono ?_; (focus (go_simp; done)); rintro e w' ⟨rfl, rfl⟩)
    go_ret
    exact ⟨rfl, (Ch.refl _ _).alloc _⟩
  | true =>
  cases a4 : inV N t with
  | false =>
    go_enter Try.func15, Try.ntmps15
    go_wp2_with (go_at_call 26; refine (vertex_calls w.heap.size N _ _ ?_).mono ?_; (focus (go_simp; done)); rintro e w' ⟨rfl, rfl⟩)
    go_ret
    exact ⟨rfl, (Ch.refl _ _).alloc _⟩
  | true =>
  have a5 : s = t := Classical.byContradiction fun hne => HH.out ⟨by omega, by omega, a3, a4, hne⟩
  have b5 : (s == t) = true := by simpa using a5
  clear a5
  go_enter Try.func15, Try.ntmps15
  go_wp2_with (go_at_call 26; refine (vertex_calls w.heap.size N _ _ ?_).mono ?_; (focus (go_simp; done)); rintro e w' ⟨rfl, rfl⟩)
  go_ret
  exact ⟨rfl, (Ch.refl _ _).alloc _⟩
set_option maxHeartbeats 4000000 in
theorem check_lots (N s t : Int) (A : Option Addr) (len c : Nat) (w : World) (ha : argOk N s t) (hl : 512 < len) :
    Calls Try.prog 15 #[.agg #[.int .i64 N, .int .i64 s, .int .i64 t, .slice A len c]] w fun e w' => e = .returned (.int .i64 2) ∧ Ch [] w w' := by
  obtain ⟨h1, h2, a3, a4, h5⟩ := ha
  have b1 : decide (N < 2) = false := by simpa using h1
  have b2 : decide (64 < N) = false := by simpa using h2
  have b5 : (s == t) = false := by simpa using h5
  have b6 : decide ((512 : Int) < (len : Int)) = true := by simp; omega
  clear h5
  go_enter Try.func15, Try.ntmps15
  go_wp2_with (go_at_call 26; refine (vertex_calls w.heap.size N _ _ ?_).mono ?_; (focus (go_simp; done)); rintro e w' ⟨rfl, rfl⟩)
  go_ret
  exact ⟨rfl, (Ch.refl _ _).alloc _⟩
theorem check_any (N s t : Int) (A : Option Addr) (c : Nat) (l : List S43) (w : World) (hr : Kd.C k43 w A l.length l) :
    Calls Try.prog 15 #[.agg #[.int .i64 N, .int .i64 s, .int .i64 t, .slice A l.length c]] w fun e w' => e = .returned (.int .i64 (chk N s t l)) ∧ Ch [] w w' := by
  by_cases h : argOk N s t
  · by_cases hl : l.length ≤ 512
    · exact check_calls N s t A c l w hr (by omega)
    · rw [chk_len h (by omega)]; exact check_lots N s t A _ c w h (by omega)
  · rw [chk_arg h]; exact check_bad N s t A _ c w h
end Go.Proofs.Ytipfpckjgfjehaa

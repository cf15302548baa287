import Derived.Test.YtipfpckjgfjehaaRows
import Derived.Test.YtipfpckjgfjehaaKit
import Derived.Test.YtipfpckjgfjehaaPFlowMaxSpecx0
import Derived.Test.YtipfpckjgfjehaaP1
namespace Go.Proofs.Ytipfpckjgfjehaa
set_option linter.unusedVariables false
set_option linter.unusedSimpArgs false
open Go.RowKit PFlowMaxSpec Go.Proofs.YtipfpckjgfjehaaW.PrintWords

set_option maxHeartbeats 400000 in
theorem to_calls (xb : Nat) (A : Option Addr) (c : Nat) (l : List S43) (i : Int) (w : World) (h0 : 0 ≤ i) (h1 : i < 2 * l.length) (hl : l.length ≤ 600)
    (hs : w.cell? ⟨xb, 3, none⟩ = some (.slice A l.length c)) (hr : Kd.C k43 w A l.length l) :
    Calls Try.prog 31 #[.pointer (some ⟨xb, 0, none⟩), .int .i64 i] w fun e w' => e = .returned (.int .i64 (toV l i)) ∧ w = w' := by
  obtain ⟨ad, rfl, c0, c1, _⟩ := at_T43 hr (i / 2) (by omega) (by omega)
  have hb : i / 2 < l.length := by omega
  have hb0 : 0 ≤ i / 2 := by omega
  by_cases hp : i % 2 = 0
  · have hd : (i % 2 == 0) = true := by simpa using hp
    have ht : toV l i = (rd_T43 l (i / 2)).f1 := by simp [toV, hp]
    rw [ht]
    clear ht hp hr
    go_enter Try.func31, Try.ntmps31
    go_wp2
    go_ret
    exact ⟨rfl, rfl⟩
  · have hd : (i % 2 == 0) = false := by simpa using hp
    have ht : toV l i = (rd_T43 l (i / 2)).f0 := by simp [toV, hp]
    rw [ht]
    clear ht hp hr
    go_enter Try.func31, Try.ntmps31
    go_wp2
    go_ret
    exact ⟨rfl, rfl⟩

theorem open_calls (p : Option Addr) (v : Int) (w : World) :
    Calls Try.prog 30 #[.pointer p, .int .i64 v] w fun e w' => e = .returned (.func (.func 35) #[] #[.pointer (some ⟨w.heap.size, 0, none⟩), .pointer (some ⟨w.heap.size + 1, 0, none⟩)]) ∧ ((w.alloc (.cells #[.pointer p] 53)).alloc (.cells #[.int .i64 v] 3)) = w' := by
  go_enter Try.func30, Try.ntmps30
  go_wp2
  go_ret
  exact ⟨rfl, rfl⟩
end Go.Proofs.Ytipfpckjgfjehaa

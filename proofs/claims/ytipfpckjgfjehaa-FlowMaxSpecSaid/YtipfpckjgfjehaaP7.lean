/-
  The reference's Check and Few come to an end, and what they are. No program in sight.
-/
import Derived.Test.YtipfpckjgfjehaaPFlowMaxSpecx2
import Derived.Test.YtipfpckjgfjehaaF5
namespace Go.Proofs.Ytipfpckjgfjehaa
set_option linter.unusedVariables false
set_option linter.unusedSimpArgs false
open Go.RowKit PFlowMaxSpec Go.Proofs.YtipfpckjgfjehaaW.PrintWords

theorem vertex_f (N s t : Int) (l : List S43) (v : Int) : fastiref13_vertex.f N s t l v = some (inV N v) := by
  unfold fastiref13_vertex.f inV
  by_cases h : v ≥ 0
  · rw [if_pos h]; simp [h]
  · rw [if_neg h]; have : ¬ 0 ≤ v := h; simp [this]
theorem wrap64_succ (n : Nat) (h : n ≤ 1000000) : wrap64 ((n : Int) + 1) = ((n + 1 : Nat) : Int) := by
  unfold wrap64; omega

theorem check_l0 (N s t : Int) (l : List S43) (hl : l.length ≤ 1000) : ∀ (d i : Nat), i + d = l.length → (∀ j : Nat, j < i → arcOk N (rd_T43 l j)) →
    fastiref13_Check.l0 (d + 1) i N s t l = some (if ∀ k : Nat, k < l.length → arcOk N (rd_T43 l k) then 0 else 130)
  | 0, i, h, ha => by
    unfold fastiref13_Check.l0
    rw [if_neg (by omega), if_pos (fun k hk => ha k (by omega))]
  | d + 1, i, h, ha => by
    have ih := check_l0 N s t l hl d (i + 1) (by omega)
    unfold fastiref13_Check.l0
    rw [if_pos (by omega), if_pos (by omega)]
    simp only [vertex_f, Option.bind_some, wrap64_succ i (by omega)]
    have bad : ¬ arcOk N (rd_T43 l i) → (if ∀ k : Nat, k < l.length → arcOk N (rd_T43 l k) then (0 : Int) else 130) = 130 := fun hb => if_neg (fun hall => hb (hall i (by omega)))
    by_cases h0 : inV N (rd_T43 l i).f0 = true
    · rw [if_pos h0]
      by_cases h1 : inV N (rd_T43 l i).f1 = true
      · rw [if_pos h1]
        by_cases h2 : (rd_T43 l i).f0 = (rd_T43 l i).f1
        · rw [if_pos h2, bad (fun h => h.2.2.1 h2)]
        · rw [if_neg h2]
          by_cases h3 : (rd_T43 l i).f2 < 0
          · rw [if_pos h3, bad (fun h => by have := h.2.2.2.1; omega)]
          · rw [if_neg h3]
            by_cases h4 : (rd_T43 l i).f2 > 1073741824
            · rw [if_pos h4, bad (fun h => by have := h.2.2.2.2; omega)]
            · rw [if_neg h4]
              refine ih (fun j hj => ?_)
              by_cases e : j = i
              · subst e; exact ⟨h0, h1, h2, by omega, by omega⟩
              · exact ha j (by omega)
      · rw [if_neg h1, bad (fun h => h1 h.2.1)]
    · rw [if_neg h0, bad (fun h => h0 h.1)]

theorem check_f (N s t : Int) (l : List S43) : fastiref13_Check.f 600 N s t l = some (chk N s t l) := by
  have hj : ∀ b : Bool, (b = false ↔ argOk N s t) → fastiref13_Check.j0 600 b N s t l = some (chk N s t l) := fun b hb => by
    unfold fastiref13_Check.j0
    show (if b = true then some 1 else (if (l.length : Int) > 512 then some 2 else fastiref13_Check.l0 599 0 N s t l)) = some (chk N s t l)
    cases b with
    | true =>
      rw [if_pos rfl, chk_arg (fun h => by have := hb.2 h; cases this)]
    | false =>
      have ha := hb.1 rfl
      rw [if_neg (by decide)]
      by_cases hl : (l.length : Int) > 512
      · rw [if_pos hl, chk_len ha (by omega)]
      · rw [if_neg hl]
        have h1 := check_l0 N s t l (by omega) l.length 0 (by omega) (fun j hj => by omega)
        have h2 := at_rounds (g := fun k => fastiref13_Check.l0 k ((0 : Nat) : Int) N s t l) (fun k => (fastiref13_Check.mono_l k).2 _ _ _ _ _) (k := l.length + 1) (k' := 599) (by omega) h1
        refine h2.trans ?_
        unfold chk
        rw [if_pos ha, if_pos (show l.length ≤ 512 by omega)]
  unfold fastiref13_Check.f
  simp only [vertex_f, Option.bind_some]
  by_cases h1 : N < 2
  · rw [if_pos h1]; exact hj true ⟨fun h => by (cases h), fun h => by have := h.1; omega⟩
  rw [if_neg h1]
  by_cases h2 : N > 64
  · rw [if_pos h2]; exact hj true ⟨fun h => by (cases h), fun h => by have := h.2.1; omega⟩
  rw [if_neg h2]
  by_cases h3 : inV N s = true
  · rw [if_pos h3]
    by_cases h4 : inV N t = true
    · rw [if_pos h4]
      refine hj _ ⟨fun h => ⟨by omega, by omega, h3, h4, by simpa using h⟩, fun h => by simpa using h.2.2.2.2⟩
    · rw [if_neg h4]; exact hj true ⟨fun h => by (cases h), fun h => absurd h.2.2.2.1 h4⟩
  · rw [if_neg h3]; exact hj true ⟨fun h => by (cases h), fun h => absurd h.2.2.1 h3⟩

/-- Has a network, if it is valid, few vertices and arcs? -/
def few (N s t : Int) (l : List S43) : Bool := if chk N s t l = 0 then decide (N ≤ 24) && decide (l.length ≤ 80) else decide (l.length ≤ 600)
theorem few_f (N s t : Int) (l : List S43) : fastiref13_Few.f 600 N s t l = some (few N s t l) := by
  unfold fastiref13_Few.f few
  simp only [check_f, Option.bind_some]
  by_cases hz : chk N s t l = 0
  · rw [if_pos hz, if_pos hz, if_pos hz]
    by_cases h : N ≤ 24
    · rw [if_pos h, decide_eq_true h, Bool.true_and]
      congr 1
      exact decide_eq_decide.2 (by omega)
    · rw [if_neg h, decide_eq_false h, Bool.false_and]
  · rw [if_neg hz, if_neg hz, if_neg hz]
    by_cases h : (l.length : Int) ≤ 600
    · rw [if_pos h, decide_eq_true (by omega)]
    · rw [if_neg h, decide_eq_false (by omega)]
end Go.Proofs.Ytipfpckjgfjehaa

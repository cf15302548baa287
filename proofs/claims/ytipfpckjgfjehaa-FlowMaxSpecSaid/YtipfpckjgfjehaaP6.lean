/-
  The plain side of sane: the three networks. No program in sight.
-/
import Derived.Test.YtipfpckjgfjehaaP5
import Derived.Test.YtipfpckjgfjehaaPFlowMaxSpecx1
namespace Go.Proofs.Ytipfpckjgfjehaa
set_option linter.unusedVariables false
set_option linter.unusedSimpArgs false
open PFlowMaxSpec
def l4 : List S43 := [⟨0, 1, 3⟩, ⟨0, 2, 2⟩, ⟨1, 2, 5⟩, ⟨1, 3, 2⟩, ⟨2, 3, 3⟩]
def l3 : List S43 := [⟨0, 1, 9⟩, ⟨1, 2, 4⟩]
def l1 : List S43 := [⟨1, 0, 2⟩]
theorem chk_l4 : chk 4 0 3 l4 = 0 := by decide +kernel
theorem chk_l3 : chk 3 0 2 l3 = 0 := by decide +kernel
theorem chk_l1 : chk 2 0 1 l1 = 0 := by decide +kernel
theorem chk_l0 : chk 2 0 1 [] = 0 := by decide +kernel
theorem chk_one : chk 1 0 0 [] = 1 := by decide +kernel
theorem chk_z : chk 2 0 1 [z43] = 130 := by decide +kernel
theorem arg_2 : argOk 2 0 1 := by decide +kernel
theorem val_l1 : val 2 0 1 l1 [2] = (-2, 0) := by decide +kernel
theorem cut_l1 : cut 2 0 1 l1 [true, false] = (0, 0) := by decide +kernel
theorem val_l3 : val 3 0 2 l3 [4, 3] = (0, 130) := by decide +kernel
theorem cut_l3 : cut 3 0 2 l3 [true, true, true] = (0, 130) := by decide +kernel

theorem max_l0 {x : List Int} {side : List Bool} (h : MaxRes 2 0 1 [] x side) : x = [] ∧ side = [true, false] := by
  refine ⟨List.length_eq_zero_iff.1 h.flow.1, ?_⟩
  obtain ⟨h1, h2, h3⟩ := h.sd
  match side, h1, h2, h3 with
  | [a, b], _, h2, h3 =>
    have e1 : a = true := h2
    have e2 : b = false := h3
    rw [e1, e2]
theorem max_l3 {x : List Int} {side : List Bool} (h : MaxRes 3 0 2 l3 x side) : x = [4, 4] ∧ side = [true, true, false] := by
  obtain ⟨h1, h2, h3⟩ := h.sd
  obtain ⟨f1, f2, f3⟩ := h.flow
  have he := h.eq
  match side, h1, h2, h3, he with
  | [a, b, c], _, h2, h3, he =>
    have e1 : a = true := h2
    have e2 : c = false := h3
    subst e1 e2
    match x, f1, f2, f3, he with
    | [x0, x1], _, f2, f3, he =>
      have k := f3 1 (by decide) (by decide) (by decide)
      have c0 := f2 0 (by decide)
      have c1 := f2 1 (by decide)
      simp only [sur, surK, sumR, l3, rd_T43, gi, ind, cutOf, cutK, gb, List.length_cons, List.length_nil] at k c0 c1 he
      simp at k c0 c1 he
      cases b <;> simp at he
      · omega
      · refine ⟨?_, rfl⟩
        have : x0 = 4 := by omega
        have : x1 = 4 := by omega
        simp_all
theorem max_l4 {x : List Int} {side : List Bool} (h : MaxRes 4 0 3 l4 x side) : sur l4 x 0 = 5 ∧ side = [true, false, false, false] := by
  have hn : NetOk 4 0 3 l4 := NetOk.of chk_l4
  have hs' : sideOk 4 0 3 [true, false, false, false] := by decide
  have hw := weak hn h.flow hs'
  have hc : cutOf l4 [true, false, false, false] = 5 := by decide +kernel
  rw [hc] at hw
  obtain ⟨h1, h2, h3⟩ := h.sd
  have he := h.eq
  have hl := h.least _ hs'
  rw [hc] at hl
  match side, h1, h2, h3, he, hl with
  | [a, b, c, d], _, h2, h3, he, hl =>
    have e1 : a = true := h2
    have e2 : d = false := h3
    subst e1 e2
    have h5 : sur l4 x 0 = 5 := by
      have g : ∀ b c : Bool, 5 ≤ cutOf l4 [true, b, c, false] := by decide +kernel
      have := g b c
      omega
    refine ⟨h5, ?_⟩
    have hl := hl (by omega)
    have hb : b = false := by
      cases b
      · rfl
      · have := hl 1 (by decide) (by decide) rfl
        cases this
    have hc' : c = false := by
      cases c
      · rfl
      · have := hl 2 (by decide) (by decide) rfl
        cases this
    rw [hb, hc']
theorem val_of_max {N s t : Int} {l : List S43} {x : List Int} {side : List Bool} (hz : chk N s t l = 0) (h : MaxRes N s t l x side) : val N s t l x = (sur l x s, 0) := by unfold val; rw [if_pos hz, if_pos h.flow]
theorem cut_of_max {N s t : Int} {l : List S43} {x : List Int} {side : List Bool} (hz : chk N s t l = 0) (h : MaxRes N s t l x side) : cut N s t l side = (sur l x s, 0) := by unfold cut; rw [if_pos hz, if_pos h.sd, h.eq]
end Go.Proofs.Ytipfpckjgfjehaa

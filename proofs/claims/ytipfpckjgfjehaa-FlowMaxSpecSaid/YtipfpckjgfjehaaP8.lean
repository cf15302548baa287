/-
  The reference's Value comes to an end, and is val. No program in sight.
-/
import Derived.Test.YtipfpckjgfjehaaP7
import Derived.Test.YtipfpckjgfjehaaP5
namespace Go.Proofs.Ytipfpckjgfjehaa
set_option linter.unusedVariables false
set_option linter.unusedSimpArgs false
open Go.RowKit PFlowMaxSpec Go.Proofs.YtipfpckjgfjehaaW.PrintWords

theorem wrap64_id (n : Int) (h0 : -1000000000000 ≤ n) (h1 : n ≤ 1000000000000) : wrap64 n = n := by unfold wrap64; omega
theorem rd_gi (x : List Int) (i : Int) : rd x i = gi x i := rfl

section
variable {N s t : Int} {l : List S43} {x : List Int}
theorem surplus_l0 (h : NetOk N s t l) (hx : x.length = l.length) (hc : capsOk l x) (v : Int) : ∀ (d i : Nat), i + d = l.length →
    fastiref13_surplus.l0 (d + 1) x v (surK l x i v) i N s t l = some (sur l x v)
  | 0, i, hi => by
    unfold fastiref13_surplus.l0
    rw [if_neg (by omega)]
    unfold sur
    rw [show l.length = i by omega]
  | d + 1, i, hi => by
    have ih := surplus_l0 h hx hc v d (i + 1) (by omega)
    have hlen := h.len
    have hb := surK_bound (l := l) (u := v) i (fun k hk => ⟨(hc k (by omega)).1, by have := (hc k (by omega)).2; have := (h.arcs k (by omega)).2.2.2.2; omega⟩)
    have hci := hc i (by omega)
    have hai := h.arcs i (by omega)
    have hne := hai.2.2.1
    have hcap := hai.2.2.2.2
    unfold fastiref13_surplus.l0
    rw [if_pos (by omega), if_pos (by omega)]
    simp only [rd_gi, wrap64_succ i (by omega)]
    by_cases h0 : (rd_T43 l i).f0 = v
    · rw [if_pos h0, if_pos (by omega), if_neg (by intro e; exact hne (h0.trans e.symm)), wrap64_id _ (by omega) (by omega)]
      rw [← h0, surK_succ_from hne, h0] at ih
      exact ih
    · rw [if_neg h0]
      by_cases h1 : (rd_T43 l i).f1 = v
      · rw [if_pos h1, if_pos (by omega), wrap64_id _ (by omega) (by omega)]
        rw [← h1, surK_succ_to hne, h1] at ih
        exact ih
      · rw [if_neg h1]
        rw [surK_succ_other h0 h1] at ih
        exact ih
theorem surplus_f (h : NetOk N s t l) (hx : x.length = l.length) (hc : capsOk l x) (v : Int) (k : Nat) (hk : l.length + 1 ≤ k) : fastiref13_surplus.f k N s t l x v = some (sur l x v) := by
  have h1 := surplus_l0 h hx hc v l.length 0 (by omega)
  exact at_rounds (g := fun k => fastiref13_surplus.l0 k x v (surK l x 0 v) ((0 : Nat) : Int) N s t l) (fun k => fastiref13_surplus.mono_l k _ _ _ _ _ _ _ _) hk h1

theorem value_l1 (h : NetOk N s t l) (hx : x.length = l.length) (hc : capsOk l x) : ∀ (d i k : Nat), i + d = N.toNat → d + l.length + 2 ≤ k → (∀ u : Nat, u < i → (u : Int) ≠ s → (u : Int) ≠ t → sur l x u = 0) →
    fastiref13_Value.l1 k x i N s t l = some (if keepsOk N s t l x then (sur l x s, 0) else (0, 130))
  | 0, i, k, hi, hk, ha => by
    obtain ⟨k, rfl⟩ : ∃ k', k = k' + 1 := ⟨k - 1, by omega⟩
    have hN := h.arg.1
    unfold fastiref13_Value.l1
    have hkp : keepsOk N s t l x := fun u hu => ha u (by omega)
    rw [if_neg (by omega), surplus_f h hx hc s k (by omega), if_pos hkp]
    rfl
  | d + 1, i, k, hi, hk, ha => by
    obtain ⟨k, rfl⟩ : ∃ k', k = k' + 1 := ⟨k - 1, by omega⟩
    have hN := h.arg.2.1
    have ih := value_l1 h hx hc d (i + 1) k (by omega) (by omega)
    unfold fastiref13_Value.l1
    rw [if_pos (by omega), wrap64_succ i (by omega)]
    by_cases e1 : (i : Int) = s
    · rw [if_pos e1]
      exact ih (fun u hu h1 h2 => by
        by_cases e : u = i
        · subst e; exact absurd e1 h1
        · exact ha u (by omega) h1 h2)
    · rw [if_neg e1]
      by_cases e2 : (i : Int) = t
      · rw [if_pos e2]
        exact ih (fun u hu h1 h2 => by
          by_cases e : u = i
          · subst e; exact absurd e2 h2
          · exact ha u (by omega) h1 h2)
      · rw [if_neg e2, surplus_f h hx hc i k (by omega), Option.bind_some]
        by_cases e3 : sur l x i = 0
        · rw [if_pos e3]
          exact ih (fun u hu h1 h2 => by
            by_cases e : u = i
            · subst e; exact e3
            · exact ha u (by omega) h1 h2)
        · rw [if_neg e3, if_neg (fun hk => e3 (hk i (by omega) e1 e2))]

theorem value_l0 (h : NetOk N s t l) (hx : x.length = l.length) : ∀ (d i k : Nat), i + d = l.length → d + N.toNat + l.length + 4 ≤ k → (∀ u : Nat, u < i → 0 ≤ gi x u ∧ gi x u ≤ (rd_T43 l u).f2) →
    fastiref13_Value.l0 k x i N s t l = some (if capsOk l x ∧ keepsOk N s t l x then (sur l x s, 0) else (0, 130))
  | 0, i, k, hi, hk, ha => by
    obtain ⟨k, rfl⟩ : ∃ k', k = k' + 1 := ⟨k - 1, by omega⟩
    have hc : capsOk l x := fun u hu => ha u (by omega)
    unfold fastiref13_Value.l0
    rw [if_neg (by omega)]
    refine (value_l1 h hx hc N.toNat 0 k (by omega) (by omega) (fun u hu => by omega)).trans ?_
    by_cases hq : keepsOk N s t l x
    · rw [if_pos hq, if_pos ⟨hc, hq⟩]
    · rw [if_neg hq, if_neg (fun h => hq h.2)]
  | d + 1, i, k, hi, hk, ha => by
    obtain ⟨k, rfl⟩ : ∃ k', k = k' + 1 := ⟨k - 1, by omega⟩
    have hlen := h.len
    have ih := value_l0 h hx d (i + 1) k (by omega) (by omega)
    unfold fastiref13_Value.l0
    rw [if_pos (by omega), if_pos (by omega)]
    simp only [rd_gi, wrap64_succ i (by omega)]
    by_cases e1 : gi x i < 0
    · rw [if_pos e1, if_neg (fun h => by have := (h.1 i (by omega)).1; omega)]
    · rw [if_neg e1, if_pos (by omega)]
      by_cases e2 : gi x i > (rd_T43 l i).f2
      · rw [if_pos e2, if_neg (fun h => by have := (h.1 i (by omega)).2; omega)]
      · rw [if_neg e2]
        exact ih (fun u hu => by
          by_cases e : u = i
          · subst e; exact ⟨by omega, by omega⟩
          · exact ha u (by omega))
end
theorem check_f' (N s t : Int) (l : List S43) (k : Nat) (hk : 600 ≤ k) : fastiref13_Check.f k N s t l = some (chk N s t l) :=
  at_rounds (g := fun k => fastiref13_Check.f k N s t l) (fun k => fastiref13_Check.mono _ _ _ _ k) hk (check_f N s t l)
theorem value_f (N s t : Int) (l : List S43) (x : List Int) : fastiref13_Value.f 2000 N s t l x = some (val N s t l x) := by
  unfold fastiref13_Value.f val
  rw [check_f' N s t l 2000 (by omega), Option.bind_some]
  by_cases hz : chk N s t l = 0
  · rw [if_pos hz, if_pos hz]
    have hn := NetOk.of hz
    have h1 := hn.len
    have h2 := hn.arg.2.1
    by_cases hx : x.length = l.length
    · rw [if_pos (by omega)]
      refine (value_l0 hn hx l.length 0 2000 (by omega) (by omega) (fun u hu => by omega)).trans ?_
      by_cases hq : capsOk l x ∧ keepsOk N s t l x
      · rw [if_pos hq, if_pos ⟨hx, hq.1, hq.2⟩]
      · rw [if_neg hq, if_neg (fun h => hq h.2)]
    · rw [if_neg (by omega), if_neg (fun h => hx h.1)]
  · rw [if_neg hz, if_neg hz]
end Go.Proofs.Ytipfpckjgfjehaa

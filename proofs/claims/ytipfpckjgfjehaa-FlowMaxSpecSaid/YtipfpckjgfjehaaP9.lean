/-
  What becomes of the greatest value where all Caps are multiplied, where the arcs are turned round, and where one Cap is raised. No program in sight.
-/
import Derived.Test.YtipfpckjgfjehaaP5
namespace Go.Proofs.Ytipfpckjgfjehaa
set_option linter.unusedVariables false
set_option linter.unusedSimpArgs false
open PFlowMaxSpec

section
variable {N s t : Int} {l l' : List S43} {x y : List Int} {side side' : List Bool}

theorem bools_ext {a b : List Bool} (hl : a.length = b.length) (h : ∀ v : Nat, v < a.length → gb a v = gb b v) : a = b := by
  apply List.ext_getElem hl
  intro i h1 h2
  have := h i h1
  unfold gb at this
  rw [Int.toNat_natCast, List.getD_eq_getElem?_getD, List.getD_eq_getElem?_getD, List.getElem?_eq_getElem h1, List.getElem?_eq_getElem h2] at this
  exact this

/-! ### All Caps multiplied -/
def Scaled (b : Int) (l l' : List S43) : Prop := l'.length = l.length ∧ ∀ k : Nat, k < l.length → rd_T43 l' k = ⟨(rd_T43 l k).f0, (rd_T43 l k).f1, (rd_T43 l k).f2 * b⟩
theorem Scaled.cut {b : Int} (h : Scaled b l l') (sd : List Bool) : cutOf l' sd = b * cutOf l sd := by
  rw [cutOf_eq, cutOf_eq, ← sumR_mul, h.1]
  refine sumR_congr fun k hk => ?_
  unfold cutTerm
  rw [h.2 k hk]
  simp only
  split
  · exact Int.mul_comm _ _
  · omega
theorem scale_law {b : Int} (hb : 1 ≤ b) (h : Scaled b l l') (hn : NetOk N s t l) (hn' : NetOk N s t l') (hm : MaxRes N s t l x side) (hm' : MaxRes N s t l' y side') : sur l' y s = b * sur l x s ∧ side = side' := by
  have w1 := weak hn' hm'.flow hm.sd
  have w2 := weak hn hm.flow hm'.sd
  have e1 := hm.eq
  have e2 := hm'.eq
  rw [h.cut] at w1 e2
  have hv : sur l' y s = b * sur l x s := by
    have := Int.mul_le_mul_of_nonneg_left w2 (show 0 ≤ b by omega)
    rw [e1] at this ⊢
    omega
  refine ⟨hv, ?_⟩
  have l1 := hm.sd.1
  have l2 := hm'.sd.1
  have hc : cutOf l side' ≤ sur l x s := by
    rw [e2] at hv
    exact Int.le_of_mul_le_mul_left (Int.le_of_eq hv) (by omega)
  have hc' : cutOf l' side ≤ sur l' y s := by rw [h.cut, hv, e1]; exact Int.le_refl _
  have a1 := hm.least side' hm'.sd hc
  have a2 := hm'.least side hm.sd hc'
  refine bools_ext (by omega) (fun v hv => ?_)
  have b1 := a1 v (by omega) (by omega)
  have b2 := a2 v (by omega) (by omega)
  cases h1 : gb side v <;> cases h2 : gb side' v <;> simp_all

/-! ### The arcs turned round -/
def Turned (l l' : List S43) : Prop := l'.length = l.length ∧ ∀ k : Nat, k < l.length → rd_T43 l' k = ⟨(rd_T43 l k).f1, (rd_T43 l k).f0, (rd_T43 l k).f2⟩
def comp (sd : List Bool) : List Bool := sd.map (!·)
theorem gb_comp {sd : List Bool} {v : Int} (h0 : 0 ≤ v) (h1 : v < sd.length) : gb (comp sd) v = !gb sd v := by
  unfold gb comp
  rw [List.getD_eq_getElem?_getD, List.getD_eq_getElem?_getD, List.getElem?_map, List.getElem?_eq_getElem (show v.toNat < sd.length by omega)]
  rfl
theorem comp_side (ha : argOk N s t) {sd : List Bool} (h : sideOk N s t sd) : sideOk N t s (comp sd) := by
  obtain ⟨s0, s1⟩ := inV_true.1 ha.2.2.1
  obtain ⟨t0, t1⟩ := inV_true.1 ha.2.2.2.1
  have hl := h.1
  refine ⟨by unfold comp; rw [List.length_map]; exact hl, ?_, ?_⟩
  · rw [gb_comp t0 (by omega), h.2.2]; rfl
  · rw [gb_comp s0 (by omega), h.2.1]; rfl
theorem Turned.cut (h : Turned l l') (hn : NetOk N s t l) {sd : List Bool} (hl : (sd.length : Int) = N) : cutOf l' (comp sd) = cutOf l sd := by
  rw [cutOf_eq, cutOf_eq, h.1]
  refine sumR_congr fun k hk => ?_
  obtain ⟨h0, h1, _⟩ := hn.arcs k hk
  have a0 := inV_true.1 h0
  have a1 := inV_true.1 h1
  unfold cutTerm
  rw [h.2 k hk]
  simp only
  rw [gb_comp a0.1 (by omega), gb_comp a1.1 (by omega)]
  cases gb sd (rd_T43 l k).f0 <;> cases gb sd (rd_T43 l k).f1 <;> rfl
theorem turn_arg (h : argOk N s t) : argOk N t s := ⟨h.1, h.2.1, h.2.2.2.1, h.2.2.1, Ne.symm h.2.2.2.2⟩
theorem Turned.net (h : Turned l l') (hn : NetOk N s t l) : NetOk N t s l' :=
  ⟨turn_arg hn.arg, by rw [h.1]; exact hn.len, fun k hk => by
    have h2 := h.1
    obtain ⟨a, b, c, d, e⟩ := hn.arcs k (by omega)
    rw [h.2 k (by omega)]
    exact ⟨b, a, Ne.symm c, d, e⟩⟩
theorem chk_of_net (h : NetOk N s t l) : chk N s t l = 0 := chk_ok h.arg h.len h.arcs
theorem comp_comp (sd : List Bool) : comp (comp sd) = sd := by
  unfold comp
  rw [List.map_map]
  conv => rhs; rw [← List.map_id sd]
  refine List.map_congr_left (fun b _ => ?_)
  cases b <;> rfl
theorem turn_law (h : Turned l l') (hn : NetOk N s t l) (hm : MaxRes N s t l x side) (hm' : MaxRes N t s l' y side') : sur l x s = sur l' y t ∧ ∀ v : Int, 0 ≤ v → v < N → gb side v = true → gb side' v = false := by
  have hn' := h.net hn
  have c1 := comp_side hn.arg hm.sd
  have c2 := comp_side hn'.arg hm'.sd
  have w1 := weak hn' hm'.flow c1
  have w2 := weak hn hm.flow c2
  have e1 := hm.eq
  have e2 := hm'.eq
  have l1 := hm.sd.1
  have l2 := hm'.sd.1
  rw [h.cut hn l1] at w1
  have e3 : cutOf l (comp side') = cutOf l' side' := by
    have := h.cut hn (sd := comp side') (by unfold comp; rw [List.length_map]; exact l2)
    rw [comp_comp] at this
    exact this.symm
  refine ⟨by omega, fun v v0 v1 hv => ?_⟩
  have := hm.least (comp side') c2 (by omega) v v0 v1 hv
  rw [gb_comp v0 (by omega)] at this
  simpa using this

/-! ### One Cap raised -/
def Raised (i : Nat) (b : Int) (l l' : List S43) : Prop := l'.length = l.length ∧ i < l.length ∧ rd_T43 l' i = ⟨(rd_T43 l i).f0, (rd_T43 l i).f1, (rd_T43 l i).f2 + b⟩ ∧ ∀ k : Nat, k < l.length → k ≠ i → rd_T43 l' k = rd_T43 l k
theorem Raised.cut {i : Nat} {b : Int} (h : Raised i b l l') (sd : List Bool) : cutOf l' sd = cutOf l sd + (if gb sd (rd_T43 l i).f0 = true ∧ gb sd (rd_T43 l i).f1 = false then b else 0) := by
  obtain ⟨h1, h2, h3, h4⟩ := h
  rw [cutOf_eq, cutOf_eq, h1, sumR_upd h2 (fun j hj hne => show cutTerm l' sd j = cutTerm l sd j by unfold cutTerm; rw [h4 j hj hne])]
  unfold cutTerm
  rw [h3]
  simp only
  split <;> omega
theorem Raised.net {i : Nat} {b : Int} (h : Raised i b l l') (hb : 0 ≤ b) (hn : NetOk N s t l) (hc : (rd_T43 l i).f2 + b ≤ 1073741824) : NetOk N s t l' :=
  ⟨hn.arg, by rw [h.1]; exact hn.len, fun k hk => by
    have h2 := h.1
    obtain ⟨a, a1, c, d, e⟩ := hn.arcs k (by omega)
    by_cases hki : k = i
    · subst hki
      rw [h.2.2.1]
      exact ⟨a, a1, c, by show 0 ≤ _ + b; omega, hc⟩
    · rw [h.2.2.2 k (by omega) hki]
      exact ⟨a, a1, c, d, e⟩⟩
theorem more_law {i : Nat} {b : Int} (hb : 0 ≤ b) (h : Raised i b l l') (hn : NetOk N s t l) (hn' : NetOk N s t l') (hm : MaxRes N s t l x side) (hm' : MaxRes N s t l' y side') :
    sur l x s ≤ sur l' y s ∧ sur l' y s ≤ sur l x s + b ∧ (¬ (gb side (rd_T43 l i).f0 = true ∧ gb side (rd_T43 l i).f1 = false) → sur l' y s = sur l x s) := by
  have w1 := weak hn' hm'.flow hm.sd
  have w2 := weak hn hm.flow hm'.sd
  have e1 := hm.eq
  have e2 := hm'.eq
  rw [h.cut] at w1 e2
  have key : sur l x s ≤ sur l' y s := by
    rw [e2]
    split <;> omega
  refine ⟨key, ?_, fun hno => ?_⟩
  · split at w1 <;> omega
  · rw [if_neg hno] at w1; omega
end
end Go.Proofs.Ytipfpckjgfjehaa

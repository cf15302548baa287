/-
  The plain side of flow.Max: sums, networks with what their arcs still take, and what a push does. No program in sight.
-/
import Derived.Test.YtipfpckjgfjehaaP1
namespace Go.Proofs.Ytipfpckjgfjehaa
set_option linter.unusedVariables false
set_option linter.unusedSimpArgs false
open PFlowMaxSpec

/-! ### Sums -/
def sumR : Nat → (Nat → Int) → Int
  | 0, _ => 0
  | n + 1, f => sumR n f + f n
theorem sumR_congr {n : Nat} {f g : Nat → Int} (h : ∀ k, k < n → f k = g k) : sumR n f = sumR n g := by
  induction n with
  | zero => rfl
  | succ n ih => simp only [sumR]; rw [ih (fun k hk => h k (by omega)), h n (by omega)]
theorem sumR_upd {n k : Nat} {f g : Nat → Int} (hk : k < n) (h : ∀ j, j < n → j ≠ k → f j = g j) : sumR n f = sumR n g + (f k - g k) := by
  induction n with
  | zero => omega
  | succ n ih =>
    simp only [sumR]
    by_cases e : k = n
    · subst e
      rw [sumR_congr (fun j hj => h j (by omega) (by omega))]
      omega
    · rw [ih (by omega) (fun j hj hne => h j (by omega) hne), h n (by omega) (by omega)]
      omega
theorem sumR_add {n : Nat} {f g : Nat → Int} : sumR n (fun k => f k + g k) = sumR n f + sumR n g := by
  induction n with
  | zero => rfl
  | succ n ih => simp only [sumR]; rw [ih]; omega
theorem sumR_sub {n : Nat} {f g : Nat → Int} : sumR n (fun k => f k - g k) = sumR n f - sumR n g := by
  induction n with
  | zero => rfl
  | succ n ih => simp only [sumR]; rw [ih]; omega
theorem sumR_mul {n : Nat} {f : Nat → Int} {c : Int} : sumR n (fun k => c * f k) = c * sumR n f := by
  induction n with
  | zero => simp [sumR]
  | succ n ih => simp only [sumR]; rw [ih, Int.mul_add]
theorem sumR_le {n : Nat} {f g : Nat → Int} (h : ∀ k, k < n → f k ≤ g k) : sumR n f ≤ sumR n g := by
  induction n with
  | zero => exact Int.le_refl _
  | succ n ih => simp only [sumR]; have := ih (fun k hk => h k (by omega)); have := h n (by omega); omega
theorem sumR_zero {n : Nat} {f : Nat → Int} (h : ∀ k, k < n → f k = 0) : sumR n f = 0 := by
  rw [sumR_congr h]
  induction n with
  | zero => rfl
  | succ n ih => simp only [sumR]; rw [ih (fun k hk => h k (by omega))]; rfl
theorem sumR_swap {n m : Nat} {f : Nat → Nat → Int} : sumR n (fun i => sumR m (fun j => f i j)) = sumR m (fun j => sumR n (fun i => f i j)) := by
  induction n with
  | zero => simp only [sumR]; exact (sumR_zero (fun _ _ => rfl)).symm
  | succ n ih => simp only [sumR]; rw [ih, sumR_add]
/-- A sum of what is at most so much, and comes to as much, is so much at each place. -/
theorem sumR_tight {n : Nat} {f g : Nat → Int} (h : ∀ k, k < n → f k ≤ g k) (he : sumR n g ≤ sumR n f) : ∀ k, k < n → f k = g k := by
  induction n with
  | zero => intro k hk; omega
  | succ n ih =>
    simp only [sumR] at he
    have h1 := sumR_le (n := n) (fun k hk => h k (by omega))
    have h2 := h n (by omega)
    intro k hk
    by_cases e : k = n
    · subst e; omega
    · exact ih (fun k hk => h k (by omega)) (by omega) k (by omega)

/-! ### Arcs -/
def gi (m : List Int) (i : Int) : Int := m.getD i.toNat 0
def gb (d : List Bool) (v : Int) : Bool := d.getD v.toNat false
def opp (i : Int) : Int := if i % 2 = 0 then i + 1 else i - 1
def ind (a b : Int) : Int := if a = b then 1 else 0
theorem ind_self (a : Int) : ind a a = 1 := by simp [ind]
theorem ind_ne {a b : Int} (h : a ≠ b) : ind a b = 0 := by simp [ind, h]
theorem opp_opp (i : Int) : opp (opp i) = i := by unfold opp; split <;> split <;> omega
theorem opp_range {n i : Int} (h0 : 0 ≤ i) (h1 : i < 2 * n) : 0 ≤ opp i ∧ opp i < 2 * n := by unfold opp; split <;> omega
theorem gi_set_same {m : List Int} {i x : Int} (h0 : 0 ≤ i) (h1 : i < m.length) : gi (m.set i.toNat x) i = x := by
  unfold gi
  rw [List.getD_eq_getElem?_getD, List.getElem?_set_self (by omega)]
  rfl
theorem gi_set_other {m : List Int} {i j x : Int} (h0 : 0 ≤ i) (h1 : 0 ≤ j) (h : i ≠ j) : gi (m.set i.toNat x) j = gi m j := by
  unfold gi
  rw [List.getD_eq_getElem?_getD, List.getElem?_set_ne (by omega), ← List.getD_eq_getElem?_getD]
theorem gb_set_same {m : List Bool} {i : Int} {x : Bool} (h0 : 0 ≤ i) (h1 : i < m.length) : gb (m.set i.toNat x) i = x := by
  unfold gb
  rw [List.getD_eq_getElem?_getD, List.getElem?_set_self (by omega)]
  rfl
theorem gb_set_true {m : List Bool} {i u : Int} (h : gb m u = true) : gb (m.set i.toNat true) u = true := by
  unfold gb at *
  rw [List.getD_eq_getElem?_getD] at *
  by_cases e : i.toNat = u.toNat
  · rw [← e] at h ⊢
    by_cases hl : i.toNat < m.length
    · rw [List.getElem?_set_self hl]; rfl
    · rw [List.getElem?_eq_none (by omega)] at h; simp at h
  · rw [List.getElem?_set_ne e]; exact h
theorem gb_set_inv {m : List Bool} {i u : Int} (h0 : 0 ≤ i) (hu : 0 ≤ u) (h : gb (m.set i.toNat true) u = true) : u = i ∨ gb m u = true := by
  by_cases e : u = i
  · exact .inl e
  · right
    unfold gb at *
    rw [List.getD_eq_getElem?_getD, List.getElem?_set_ne (by omega)] at h
    rwa [List.getD_eq_getElem?_getD]

/-- The arcs and opposites that leave a vertex, of the first k arcs. -/
def outK (l : List S43) : Nat → Int → List Int
  | 0, _ => []
  | k + 1, v => outK l k v ++ ((if (rd_T43 l k).f0 = v then [2 * (k : Int)] else []) ++ (if (rd_T43 l k).f1 = v then [2 * (k : Int) + 1] else []))
theorem mem_outK {l : List S43} {k : Nat} {v i : Int} (h : i ∈ outK l k v) : 0 ≤ i ∧ i < 2 * k ∧ toV l (opp i) = v := by
  induction k with
  | zero => simp [outK] at h
  | succ k ih =>
    simp only [outK, List.mem_append] at h
    rcases h with h | h | h
    · have := ih h; exact ⟨this.1, by omega, this.2.2⟩
    · split at h
      · rename_i e
        rw [List.mem_singleton] at h; subst h
        refine ⟨by omega, by omega, ?_⟩
        rw [show opp (2 * (k : Int)) = 2 * (k : Int) + 1 by unfold opp; split <;> omega]
        unfold toV
        rw [if_neg (by omega), show (2 * (k : Int) + 1) / 2 = k by omega]; exact e
      · simp at h
    · split at h
      · rename_i e
        rw [List.mem_singleton] at h; subst h
        refine ⟨by omega, by omega, ?_⟩
        rw [show opp (2 * (k : Int) + 1) = 2 * (k : Int) by unfold opp; split <;> omega]
        unfold toV
        rw [if_pos (by omega), show (2 * (k : Int)) / 2 = k by omega]; exact e
      · simp at h
theorem outK_mem {l : List S43} {k : Nat} {i : Int} (h0 : 0 ≤ i) (h1 : i < 2 * k) : i ∈ outK l k (toV l (opp i)) := by
  induction k with
  | zero => omega
  | succ k ih =>
    simp only [outK, List.mem_append]
    by_cases h : i < 2 * k
    · exact .inl (ih h)
    · right
      rcases (show i = 2 * (k : Int) ∨ i = 2 * (k : Int) + 1 by omega) with rfl | rfl
      · left
        rw [if_pos, List.mem_singleton]
        rw [show opp (2 * (k : Int)) = 2 * (k : Int) + 1 by unfold opp; split <;> omega]
        unfold toV
        rw [if_neg (by omega), show (2 * (k : Int) + 1) / 2 = k by omega]
      · right
        rw [if_pos, List.mem_singleton]
        rw [show opp (2 * (k : Int) + 1) = 2 * (k : Int) by unfold opp; split <;> omega]
        unfold toV
        rw [if_pos (by omega), show (2 * (k : Int)) / 2 = k by omega]
theorem outK_length (l : List S43) (k : Nat) (v : Int) : (outK l k v).length ≤ 2 * k := by
  induction k with
  | zero => simp [outK]
  | succ k ih =>
    simp only [outK, List.length_append]
    have h1 : (if (rd_T43 l k).f0 = v then [2 * (k : Int)] else []).length ≤ 1 := by split <;> simp
    have h2 : (if (rd_T43 l k).f1 = v then [2 * (k : Int) + 1] else []).length ≤ 1 := by split <;> simp
    omega

/-- What flows out of a vertex less what flows into it. -/
def net (l : List S43) (much : List Int) (u : Int) : Int := sumR l.length fun k => gi much (2 * k + 1) * (ind (rd_T43 l k).f0 u - ind (rd_T43 l k).f1 u)
theorem net_push {l : List S43} {much : List Int} {i d u : Int} (hl : 2 * l.length ≤ much.length) (h0 : 0 ≤ i) (h1 : i < 2 * l.length) :
    net l ((much.set i.toNat (gi much i - d)).set (opp i).toNat (gi much (opp i) + d)) u = net l much u + d * (ind (toV l (opp i)) u - ind (toV l i) u) := by
  obtain ⟨ho0, ho1⟩ := opp_range h0 h1
  have hne : i ≠ opp i := by unfold opp; split <;> omega
  have hk : (i / 2).toNat < l.length := by omega
  have e2 : (((i / 2).toNat : Nat) : Int) = i / 2 := by omega
  unfold net
  rw [sumR_upd (g := fun k => gi much (2 * k + 1) * (ind (rd_T43 l k).f0 u - ind (rd_T43 l k).f1 u)) hk]
  · congr 1
    simp only [e2]
    by_cases hp : i % 2 = 0
    · have ho : opp i = i + 1 := by unfold opp; rw [if_pos hp]
      have e : 2 * (i / 2) + 1 = opp i := by omega
      have t1 : toV l (opp i) = (rd_T43 l (i / 2)).f0 := by unfold toV; rw [if_neg (by omega), show opp i / 2 = i / 2 by omega]
      have t2 : toV l i = (rd_T43 l (i / 2)).f1 := by unfold toV; rw [if_pos hp]
      rw [e, gi_set_same ho0 (by simp; omega), t1, t2, ← Int.sub_mul]
      congr 1
      omega
    · have ho : opp i = i - 1 := by unfold opp; rw [if_neg hp]
      have e : 2 * (i / 2) + 1 = i := by omega
      have t1 : toV l (opp i) = (rd_T43 l (i / 2)).f1 := by unfold toV; rw [if_pos (by omega), show opp i / 2 = i / 2 by omega]
      have t2 : toV l i = (rd_T43 l (i / 2)).f0 := by unfold toV; rw [if_neg hp]
      rw [e, gi_set_other ho0 h0 (Ne.symm hne), gi_set_same h0 (by omega), t1, t2, ← Int.sub_mul]
      rw [show gi much i - d - gi much i = -d by omega, Int.neg_mul, ← Int.mul_neg]
      congr 1
      omega
  · intro j hj hjk
    have hj1 : (2 * (j : Int) + 1) ≠ i := by omega
    have hj2 : (2 * (j : Int) + 1) ≠ opp i := by unfold opp; split <;> omega
    rw [gi_set_other ho0 (by omega) (Ne.symm hj2), gi_set_other h0 (by omega) (Ne.symm hj1)]
end Go.Proofs.Ytipfpckjgfjehaa

/-
  The plain side of flow.levels: level by level, over lists. No program in sight.
-/
import Derived.Test.YtipfpckjgfjehaaPFlowMaxSpecx0
namespace Go.Proofs.Ytipfpckjgfjehaa
set_option linter.unusedVariables false
set_option linter.unusedSimpArgs false
open PFlowMaxSpec

/-- Where an arc, or an opposite, leads. -/
def toV (l : List S43) (i : Int) : Int := if i % 2 = 0 then (rd_T43 l (i / 2)).f1 else (rd_T43 l (i / 2)).f0

def bfsArc (l : List S43) (d : Int) (st : List Int × List Int) (i : Int) : List Int × List Int :=
  if st.1.getD (toV l i).toNat 0 < 0 then (st.1.set (toV l i).toNat d, st.2 ++ [toV l i]) else st
def isOpen (much : List Int) (i : Int) : Bool := decide (0 < much.getD i.toNat 0)
def bfsV (l : List S43) (much : List Int) (out : Int → List Int) (d : Int) (st : List Int × List Int) (v : Int) : List Int × List Int :=
  ((out v).filter (isOpen much)).foldl (bfsArc l d) st
def bfsRound (l : List S43) (much : List Int) (out : Int → List Int) (d : Int) (lev now : List Int) : List Int × List Int := now.foldl (bfsV l much out d) (lev, [])
def bfs (l : List S43) (much : List Int) (out : Int → List Int) : Nat → List Int → List Int → Int → List Int
  | 0, lev, _, _ => lev
  | k + 1, lev, now, d => if (bfsRound l much out d lev now).2 = [] then (bfsRound l much out d lev now).1 else bfs l much out k (bfsRound l much out d lev now).1 (bfsRound l much out d lev now).2 (d + 1)
def lev0 (s : Int) : List Int := (List.replicate 64 (-1)).set s.toNat 0
def negs (lev : List Int) : Nat := (lev.filter fun x => decide (x < 0)).length

/-- What holds of the levels and of the vertices found, all along. -/
structure Lv (N : Int) (m : Nat) (st : List Int × List Int) : Prop where
  len : st.1.length = 64
  ok : ∀ v ∈ st.2, 0 ≤ v ∧ v < N
  sum : st.2.length + negs st.1 = m

theorem negs_set {lev : List Int} {i : Nat} {d : Int} (hi : i < lev.length) (h : lev.getD i 0 < 0) (hd : 0 ≤ d) : negs (lev.set i d) + 1 = negs lev := by
  induction lev generalizing i with
  | nil => simp at hi
  | cons x xs ih =>
    cases i with
    | zero =>
      simp only [List.getD_cons_zero] at h
      simp [negs, List.filter_cons, h, Int.not_lt.2 hd]
    | succ i =>
      simp only [List.length_cons] at hi
      simp only [List.getD_cons_succ] at h
      have := ih (i := i) (by omega) h
      unfold negs at this ⊢
      rw [List.set_cons_succ, List.filter_cons, List.filter_cons]
      split
      · rw [List.length_cons, List.length_cons]; omega
      · omega

theorem Lv.arc {N : Int} {m : Nat} {l : List S43} {d : Int} {st : List Int × List Int} (h : Lv N m st) (i : Int) (h0 : 0 ≤ toV l i) (h1 : toV l i < N) (hN : N ≤ 64) (hd : 0 ≤ d) : Lv N m (bfsArc l d st i) := by
  unfold bfsArc
  split
  · rename_i hlt
    have hl := h.len
    refine ⟨by simp [hl], fun v hv => ?_, ?_⟩
    · rcases List.mem_append.1 hv with hv | hv
      · exact h.ok v hv
      · rw [List.mem_singleton] at hv; subst hv; exact ⟨h0, h1⟩
    · have := negs_set (lev := st.1) (i := (toV l i).toNat) (d := d) (by omega) hlt hd
      have := h.sum
      simp
      omega
  · exact h
theorem Lv.arcs {N : Int} {m : Nat} {l : List S43} {d : Int} (hN : N ≤ 64) (hd : 0 ≤ d) : ∀ (is : List Int) (st : List Int × List Int), Lv N m st → (∀ i ∈ is, 0 ≤ toV l i ∧ toV l i < N) → Lv N m (is.foldl (bfsArc l d) st)
  | [], _, h, _ => h
  | i :: is, st, h, hi => Lv.arcs hN hd is _ (h.arc i (hi i List.mem_cons_self).1 (hi i List.mem_cons_self).2 hN hd) (fun j hj => hi j (List.mem_cons_of_mem _ hj))

/-- One arc more of those that leave a vertex. -/
def bfsTake (l : List S43) (much : List Int) (d : Int) (st : List Int × List Int) (xs : List Int) (k : Nat) : List Int × List Int := ((xs.take k).filter (isOpen much)).foldl (bfsArc l d) st
theorem bfsTake_zero (l : List S43) (much : List Int) (d : Int) (st : List Int × List Int) (xs : List Int) : bfsTake l much d st xs 0 = st := rfl
theorem bfsTake_open {l : List S43} {much : List Int} {d : Int} {st : List Int × List Int} {xs : List Int} {k : Nat} (hk : k < xs.length) (h : 0 < much.getD (xs.getD k 0).toNat 0) :
    bfsTake l much d st xs (k + 1) = bfsArc l d (bfsTake l much d st xs k) (xs.getD k 0) := by
  unfold bfsTake
  rw [List.take_succ_eq_append_getElem hk, List.filter_append, List.foldl_append]
  have e : xs.getD k 0 = xs[k] := by simp [List.getD_eq_getElem?_getD, List.getElem?_eq_getElem hk]
  rw [e] at h ⊢
  have ho : isOpen much xs[k] = true := decide_eq_true h
  simp [List.filter_cons, ho]
theorem bfsTake_shut {l : List S43} {much : List Int} {d : Int} {st : List Int × List Int} {xs : List Int} {k : Nat} (hk : k < xs.length) (h : much.getD (xs.getD k 0).toNat 0 ≤ 0) :
    bfsTake l much d st xs (k + 1) = bfsTake l much d st xs k := by
  unfold bfsTake
  rw [List.take_succ_eq_append_getElem hk, List.filter_append, List.foldl_append]
  have e : xs.getD k 0 = xs[k] := by simp [List.getD_eq_getElem?_getD, List.getElem?_eq_getElem hk]
  rw [e] at h
  have ho : isOpen much xs[k] = false := decide_eq_false (Int.not_lt.2 h)
  simp [List.filter_cons, ho]
theorem bfsTake_all (l : List S43) (much : List Int) (out : Int → List Int) (d : Int) (st : List Int × List Int) (v : Int) : bfsTake l much d st (out v) (out v).length = bfsV l much out d st v := by
  unfold bfsTake bfsV
  rw [List.take_length]
theorem Lv.take {N : Int} {m : Nat} {l : List S43} {much : List Int} {d : Int} {st : List Int × List Int} (h : Lv N m st) (hN : N ≤ 64) (hd : 0 ≤ d) (xs : List Int) (k : Nat) (hx : ∀ i ∈ xs, 0 ≤ toV l i ∧ toV l i < N) : Lv N m (bfsTake l much d st xs k) :=
  Lv.arcs hN hd _ _ h (fun i hi => hx i (List.mem_of_mem_take (List.mem_filter.1 hi).1))

/-- One vertex more of a level. -/
def bfsNow (l : List S43) (much : List Int) (out : Int → List Int) (d : Int) (lev now : List Int) (j : Nat) : List Int × List Int := (now.take j).foldl (bfsV l much out d) (lev, [])
theorem bfsNow_succ {l : List S43} {much : List Int} {out : Int → List Int} {d : Int} {lev now : List Int} {j : Nat} (hj : j < now.length) :
    bfsNow l much out d lev now (j + 1) = bfsV l much out d (bfsNow l much out d lev now j) (now.getD j 0) := by
  unfold bfsNow
  rw [List.take_succ_eq_append_getElem hj, List.foldl_append]
  simp [List.getD_eq_getElem?_getD, List.getElem?_eq_getElem hj]
theorem bfsNow_all (l : List S43) (much : List Int) (out : Int → List Int) (d : Int) (lev now : List Int) : bfsNow l much out d lev now now.length = bfsRound l much out d lev now := by
  unfold bfsNow bfsRound
  rw [List.take_length]
theorem Lv.now {N : Int} {m : Nat} {l : List S43} {much : List Int} {out : Int → List Int} {d : Int} {lev now : List Int} (h : Lv N m (lev, [])) (hN : N ≤ 64) (hd : 0 ≤ d) (hnow : ∀ v ∈ now, 0 ≤ v ∧ v < N)
    (hout : ∀ v, 0 ≤ v → v < N → ∀ i ∈ out v, 0 ≤ toV l i ∧ toV l i < N) (j : Nat) : Lv N m (bfsNow l much out d lev now j) := by
  have key : ∀ (vs : List Int) (st : List Int × List Int), Lv N m st → (∀ v ∈ vs, 0 ≤ v ∧ v < N) → Lv N m (vs.foldl (bfsV l much out d) st) := by
    intro vs
    induction vs with
    | nil => exact fun st h _ => h
    | cons v vs ih =>
      intro st h hv
      have hv0 := hv v List.mem_cons_self
      refine ih _ ?_ (fun u hu => hv u (List.mem_cons_of_mem _ hu))
      have := h.take (much := much) hN hd (out v) (out v).length (hout v hv0.1 hv0.2)
      rwa [bfsTake_all] at this
  exact key _ _ h (fun v hv => hnow v (List.mem_of_mem_take hv))
end Go.Proofs.Ytipfpckjgfjehaa

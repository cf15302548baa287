/-
  Two networks in memory: the one that came in, and one that the law makes.
-/
import Derived.Test.YtipfpckjgfjehaaF12
import Derived.Test.YtipfpckjgfjehaaP9
import Derived.Laws.AppendOwnNone
import Derived.Laws.OwnMore
namespace Go.Proofs.Ytipfpckjgfjehaa
set_option linter.unusedVariables false
set_option linter.unusedSimpArgs false
open Go.RowKit PFlowMaxSpec Go.Proofs.YtipfpckjgfjehaaW.PrintWords
attribute [local go_sem] Oper.semAt_some

theorem info43' : (Try.prog.info? 43).map (fun i => (i.zero, i.size, i.bytes)) = some (some (.agg #[.int .i64 0, .int .i64 0, .int .i64 0]), 3, 24) := by kernel_rfl

/-! ### A row of arcs of the call's own -/
def arcL (l : List S43) : List Value := l.flatMap fun a => [Value.int .i64 a.f0, .int .i64 a.f1, .int .i64 a.f2]
theorem arcL_length (l : List S43) : (arcL l).length = l.length * 3 := by
  unfold arcL
  induction l with
  | nil => rfl
  | cons a l ih => rw [List.flatMap_cons, List.length_append, ih]; simp; omega
theorem arcL_append (l : List S43) (a : S43) : arcL (l ++ [a]) = arcL l ++ [.int .i64 a.f0, .int .i64 a.f1, .int .i64 a.f2] := by
  unfold arcL
  rw [List.flatMap_append]
  simp
theorem arcL_one (l : List S43) : ∀ u ∈ arcL l, u.oneCell' = true := by
  intro u hu
  unfold arcL at hu
  obtain ⟨a, _, h⟩ := List.mem_flatMap.1 hu
  simp at h
  rcases h with rfl | rfl | rfl <;> rfl
theorem arcL_get (l : List S43) (j i : Nat) (hj : j < l.length) (hi : i < 3) : (arcL l)[j * 3 + i]? = [Value.int .i64 l[j].f0, .int .i64 l[j].f1, .int .i64 l[j].f2][i]? := flatMap3_get l j i hj hi
theorem arcL_set (l : List S43) (i : Nat) (hi : i < l.length) (y : Int) : (arcL l).set (i * 3 + 2) (.int .i64 y) = arcL (l.set i ⟨(rd_T43 l i).f0, (rd_T43 l i).f1, y⟩) := by
  apply List.ext_getElem?
  intro m
  have hl := arcL_length l
  by_cases hm : m < l.length * 3
  · obtain ⟨j, r, hr, rfl⟩ : ∃ j r, r < 3 ∧ m = j * 3 + r := ⟨m / 3, m % 3, by omega, by omega⟩
    have hj : j < l.length := by omega
    rw [arcL_get _ j r (by rw [List.length_set]; exact hj) hr, List.getElem_set]
    by_cases hji : i = j
    · subst hji
      have e : rd_T43 l i = l[i] := by
        unfold rd_T43
        rw [Int.toNat_natCast, List.getD_eq_getElem?_getD, List.getElem?_eq_getElem hj]; rfl
      rw [if_pos rfl, e]
      by_cases h2 : r = 2
      · subst h2
        rw [List.getElem?_set_self (by omega)]; rfl
      · rw [List.getElem?_set_ne (by omega), arcL_get l i r hj hr]
        have : r = 0 ∨ r = 1 := by omega
        rcases this with rfl | rfl <;> rfl
    · rw [if_neg hji, List.getElem?_set_ne (by omega), arcL_get l j r hj hr]
  · rw [List.getElem?_eq_none (by rw [List.length_set]; omega), List.getElem?_eq_none (by rw [arcL_length, List.length_set]; omega)]

def RowA (w : World) (B : Nat) (v : Value) (l : List S43) : Prop := w.ownsRow B 43 3 v l.length (arcL l)
section
variable {w w' : World} {B : Nat} {v : Value} {l : List S43}
theorem RowA.val (h : RowA w B v l) : ∃ A c, v = .slice A l.length c := own_slice h
theorem RowA.blk (h : RowA w B v l) (b : Nat) (hb : v.ownBlock = some b) : B ≤ b ∧ ∃ cs, w.heap[b]? = some (.cells cs 43 (0, 0)) := ⟨(h.lt b hb).1, own_typed h b hb⟩
theorem RowA.ne (h : RowA w B v l) {g : Nat} {o : Obj} (hg : w.heap[g]? = some o) (ho : ∀ cs, o ≠ .cells cs 43 (0, 0)) : v.ownBlock ≠ some g := by
  intro e
  obtain ⟨_, cs, hcs⟩ := h.blk g e
  rw [hg] at hcs
  exact ho cs (Option.some.inj hcs)
theorem RowA.keep (h : RowA w B v l) (hb : ∀ b, v.ownBlock = some b → w'.heap[b]? = w.heap[b]?) : RowA w' B v l := own_move h hb
theorem RowA.cap {A : Option Addr} {c : Nat} (h : RowA w B v l) (hv : v = .slice A l.length c) : l.length ≤ c := own_cap h hv
/-- Its arcs, read. -/
theorem RowA.toC (h : RowA w B v l) (hl : l.length ≤ 1000000) : ∃ A c, v = .slice A l.length c ∧ l.length ≤ c ∧ k43.C w A l.length l := by
  obtain ⟨A, c, hv⟩ := h.val
  refine ⟨A, c, hv, h.cap hv, rfl, by omega, fun hp => ?_⟩
  rcases h.2 with ⟨_, h0⟩ | ⟨g, cap, cur, hv', _⟩
  · omega
  · rw [hv] at hv'
    cases hv'
    refine ⟨_, rfl, fun j p hj => ⟨[.int .i64 p.f0, .int .i64 p.f1, .int .i64 p.f2], rfl, k43_mk w p, fun i u hu => ?_⟩⟩
    obtain ⟨hjl, hp⟩ := List.getElem?_eq_some_iff.1 hj
    have hi : i < 3 := by simpa using (List.getElem?_eq_some_iff.1 hu).1
    refine h.cells (g := g) (by rw [hv]; rfl) (j * 3 + i) u ?_
    rw [arcL_get l j i hjl hi, hp]
    exact hu
/-- The block it lies in, at an element's third cell. -/
theorem RowA.third (h : RowA w B v l) (i : Nat) (hi : i < l.length) (y : Int) : ∃ g c, v = .slice (some ⟨g, 0, none⟩) l.length c ∧ g < w.heap.size ∧ w.cell? ⟨g, i * 3 + 2, none⟩ = some (.int .i64 (rd_T43 l i).f2) ∧ w.frozen? ⟨g, i * 3 + 2, none⟩ = false ∧
    RowA (w.setCell ⟨g, i * 3 + 2, none⟩ (.int .i64 y)) B v (l.set i ⟨(rd_T43 l i).f0, (rd_T43 l i).f1, y⟩) ∧ B ≤ g := by
  rcases h.2 with ⟨_, h0⟩ | ⟨g, cap, cur, hv', hB, _⟩
  · omega
  · subst hv'
    have h' : w.ownsRow B 43 3 (.slice (some ⟨g, 0, none⟩) l.length cap) l.length (arcL l) := h
    refine ⟨g, cap, rfl, (h.lt g rfl).2, ?_, h'.frozenAt _, ?_, hB⟩
    · rw [h'.cellAt (i * 3 + 2) (by omega), arcL_get l i 2 hi (by omega)]
      unfold rd_T43
      rw [Int.toNat_natCast, List.getD_eq_getElem?_getD, List.getElem?_eq_getElem hi]; rfl
    · have := (h'.stored (i * 3 + 2) (.int .i64 y)).1
      unfold RowA
      rw [← arcL_set l i hi, List.length_set]
      exact this
end

/-! ### append of one arc, and of all arcs of another row -/
section
variable {P : Program} {ops : Array Oper} {rest : List Oper} {o : Oper} {a : Act} {Q : Exit → Act → World → Prop}
theorem cells3_new (w : World) (cs : List Value) (t : TypeId) : ∀ j u, cs[j]? = some u → (w.alloc (.cells cs.toArray t)).cell? ((⟨w.heap.size, 0, none⟩ : Addr).add j) = some u :=
  fun j u hu => World.news_of_block (cs := cs.toArray) (blk_new w (.cells cs.toArray t)) j u hu
theorem pl_append_rowA (s x : Operand) (t : TypeId) (v : Value) (l : List S43) (y : S43) (B g : Nat) (W : World) (hgd : o.guard = none)
    (ho : o.op = .call { callee := .builtin .append, args := #[s, x], argTypes := #[t, t] })
    (ht : P.underlying t = some (.slice 43)) (hinfo : (P.info? 43).map (fun i => (i.zero, i.size, i.bytes)) = some (some (.agg #[.int .i64 0, .int .i64 0, .int .i64 0]), 3, 24))
    (hs : a.eval s = v) (hx : a.eval x = .slice (some ⟨g, 0, none⟩) 1 1) (hgW : W.heap.size = g) (HO : RowA W B v l) (hB : B ≤ W.heap.size) (hl : l.length ≤ 100000)
    (h : ∀ v' w', RowA w' B v' (l ++ [y]) → W.grownBy w' v.ownBlock → wpList P ops Q rest (a.put o.dst v') w') :
    wpList P ops Q (o :: rest) a (W.alloc (.cells #[.int .i64 y.f0, .int .i64 y.f1, .int .i64 y.f2] 43)) := by
  subst hgW
  obtain ⟨i0, hi, hz0, hz1, hz2⟩ := info_parts hinfo
  refine wpList_append_own_at (W.alloc (.cells #[.int .i64 y.f0, .int .i64 y.f1, .int .i64 y.f2] 43)) hgd s x t ho B 43 i0 (.agg #[.int .i64 0, .int .i64 0, .int .i64 0]) 3 24 ht hi hz0 hz1 hz2 rfl (by decide) v l.length (arcL l) hs (HO.alloc _) ⟨W.heap.size, 0, none⟩ 1 1 [.int .i64 y.f0, .int .i64 y.f1, .int .i64 y.f2] hx rfl
    (cells3_new W [.int .i64 y.f0, .int .i64 y.f1, .int .i64 y.f2] 43) (by simp [Value.oneCell']) (by simp only [maxLen]; omega) (by omega) (by simp; omega) ?_
  intro v' w' hown hg _ _
  refine h v' w' ?_ (World.grownBy.trans (World.grownBy_alloc W _ _) hg)
  unfold RowA
  rw [List.length_append, arcL_append]
  exact hown
theorem pl_append_copyA (s x : Operand) (t : TypeId) (A : Option Addr) (c : Nat) (l : List S43) (B g : Nat) (W : World) (hgd : o.guard = none)
    (ho : o.op = .call { callee := .builtin .append, args := #[s, x], argTypes := #[t, t] })
    (ht : P.underlying t = some (.slice 43)) (hinfo : (P.info? 43).map (fun i => (i.zero, i.size, i.bytes)) = some (some (.agg #[.int .i64 0, .int .i64 0, .int .i64 0]), 3, 24))
    (hs : a.eval s = .slice (some ⟨g, 0, none⟩) 0 0) (hx : a.eval x = .slice A l.length c) (hgW : W.heap.size = g) (HC : k43.C W A l.length l) (hc : A = none → c = 0) (hB : B ≤ W.heap.size) (hl : l.length ≤ 100000)
    (h : ∀ v' w', RowA w' B v' l → (W.alloc (.cells #[] 43)).grownBy w' (some g) → wpList P ops Q rest (a.put o.dst v') w') :
    wpList P ops Q (o :: rest) a (W.alloc (.cells #[] 43)) := by
  subst hgW
  obtain ⟨i0, hi, hz0, hz1, hz2⟩ := info_parts hinfo
  have hown0 := World.ownsRow_made (e := 43) (size := 3) W #[] 0 hB (by simp [maxLen]) rfl
  cases A with
  | none =>
    have hl0 : l.length = 0 := by
      rcases Nat.eq_zero_or_pos l.length with h0 | hp
      · exact h0
      · obtain ⟨ad, e, _⟩ := HC.2.2 hp; cases e
    obtain rfl := List.eq_nil_of_length_eq_zero hl0
    rw [hc rfl] at hx
    refine wpList_append_own_none hgd s x t ho B 43 i0 3 ht hi _ 0 [] hs hown0 hx ?_
    exact h _ _ hown0 (World.grownBy.refl _ _)
  | some ad =>
    refine wpList_append_own (W.alloc (.cells #[] 43)) hgd s x t ho B 43 i0 (.agg #[.int .i64 0, .int .i64 0, .int .i64 0]) 3 24 ht hi hz0 hz1 hz2 rfl (by decide) _ 0 [] hs hown0 ad l.length c (arcL l) hx (arcL_length l) ?_ (arcL_one l) (by simp only [maxLen]; omega) (by omega) (by simp; omega) ?_
    · intro m u hu
      have hm : m < l.length * 3 := by rw [← arcL_length]; exact (List.getElem?_eq_some_iff.1 hu).1
      obtain ⟨j, r, hr, rfl⟩ : ∃ j r, r < 3 ∧ m = j * 3 + r := ⟨m / 3, m % 3, by omega, by omega⟩
      have hj : j < l.length := by omega
      rw [arcL_get l j r hj hr] at hu
      obtain ⟨ad', e, hcell⟩ := (Kd.C_alloc HC (.cells #[] 43)).2.2 (by omega)
      cases e
      obtain ⟨cs, hcs, hK, hcs'⟩ := hcell j l[j] (List.getElem?_eq_getElem hj)
      rw [k43_open hK] at hcs'
      exact hcs' r u hu
    · intro v' w' hown hg _
      refine h v' w' ?_ hg
      rw [Nat.zero_add, List.nil_append] at hown
      exact hown
end

/-! ### The two networks -/
structure L2 (N s t : Int) (A : Option Addr) (c : Nat) (l : List S43) (w W : World) (p : Nat) (s2 t2 : Int) (p2 : Nat) (v2 : Value) (l2 : List S43) : Prop where
  hr : k43.C w A l.length l
  h : LH N s t A c l w W p
  blk2 : W.heap[p2]? = some (.cells #[.int .i64 N, .int .i64 s2, .int .i64 t2, v2] 24 (0, 0))
  row : RowA W w.heap.size v2 l2
  new : w.heap.size ≤ p2
  ne : p ≠ p2
  pnew : w.heap.size ≤ p
section
variable {N s t s2 t2 : Int} {A : Option Addr} {c : Nat} {l l2 : List S43} {w W W' : World} {p p2 : Nat} {v2 : Value}
theorem L2.move (h : L2 N s t A c l w W p s2 t2 p2 v2 l2) (hc : Ch [] W W') : L2 N s t A c l w W' p s2 t2 p2 v2 l2 :=
  ⟨h.hr, h.h.move hc, hc.at h.blk2 (by simp), h.row.keep (fun b hb => hc.block b (h.row.lt b hb).2 (by simp)), h.new, h.ne, h.pnew⟩
theorem L2.ch (h : L2 N s t A c l w W p s2 t2 p2 v2 l2) : Ch [] w W := h.h.ch
theorem L2.size (h : L2 N s t A c l w W p s2 t2 p2 v2 l2) : w.heap.size ≤ W.heap.size := h.h.ch.size
theorem L2.d0 (h : L2 N s t A c l w W p s2 t2 p2 v2 l2) : W.cell? ⟨p2, 0, none⟩ = some (.int .i64 N) := (blk_cell h.blk2 0).trans rfl
theorem L2.d1 (h : L2 N s t A c l w W p s2 t2 p2 v2 l2) : W.cell? ⟨p2, 1, none⟩ = some (.int .i64 s2) := (blk_cell h.blk2 1).trans rfl
theorem L2.d2 (h : L2 N s t A c l w W p s2 t2 p2 v2 l2) : W.cell? ⟨p2, 2, none⟩ = some (.int .i64 t2) := (blk_cell h.blk2 2).trans rfl
theorem L2.d3 (h : L2 N s t A c l w W p s2 t2 p2 v2 l2) : W.cell? ⟨p2, 3, none⟩ = some v2 := (blk_cell h.blk2 3).trans rfl
theorem L2.f3 (h : L2 N s t A c l w W p s2 t2 p2 v2 l2) : W.frozen? ⟨p2, 3, none⟩ = false := blk_free h.blk2 3
/-- Another row is written into the variable: what was appended lies in the old row or in a new block. -/
theorem L2.put {row : Option Nat} (h : L2 N s t A c l w W p s2 t2 p2 v2 l2) {v' : Value} {l' : List S43} (hg : W.grownBy W' row) (hrow : ∀ b, row = some b → w.heap.size ≤ b ∧ b ≠ p ∧ b ≠ p2) (hr : RowA W' w.heap.size v' l') :
    L2 N s t A c l w (W'.setCell ⟨p2, 3, none⟩ v') p s2 t2 p2 v' l' := by
  have hb2 := blk_grown hg h.blk2 (fun e => (hrow _ e).2.2 rfl)
  have hb1 := blk_grown hg h.h.blk (fun e => (hrow _ e).2.1 rfl)
  have hch : Ch [] w (W'.setCell ⟨p2, 3, none⟩ v') := (World.grownBy.ch h.h.ch hg (fun b e => .inr (hrow b e).1)).setCell _ _ (.inr h.new)
  refine ⟨h.hr, ⟨hch, blk_other hb1 _ _ h.ne, Kd.C_below h.hr hch.below⟩, ?_, hr.keep (fun b hb => Below.heap_setCell _ _ _ b (fun e => hr.ne hb2 (by simp) (by rw [hb, e]))), h.new, h.ne, h.pnew⟩
  exact blk_set hb2 3 v'
/-- The first row is written into the variable. -/
theorem L2.first {v0 : Value} (hr : k43.C w A l.length l) (h : LH N s t A c l w W p) (hb2 : W.heap[p2]? = some (.cells #[.int .i64 N, .int .i64 s2, .int .i64 t2, v0] 24 (0, 0))) (new : w.heap.size ≤ p2) (ne : p ≠ p2) (pnew : w.heap.size ≤ p)
    {v' : Value} {l' : List S43} (hg : (W.alloc (.cells #[] 43)).grownBy W' (some W.heap.size)) (hr' : RowA W' w.heap.size v' l') :
    L2 N s t A c l w (W'.setCell ⟨p2, 3, none⟩ v') p s2 t2 p2 v' l' ∧ W'.cell? ⟨p2, 3, none⟩ = some v0 ∧ W'.frozen? ⟨p2, 3, none⟩ = false ∧ p2 < W'.heap.size := by
  have l1 := blk_lt h.blk
  have l2 := blk_lt hb2
  have hb2' := blk_grown hg (blk_alloc hb2 _) (fun e => by cases e; omega)
  have hb1' := blk_grown hg (blk_alloc h.blk _) (fun e => by cases e; omega)
  have hch : Ch [] w (W'.setCell ⟨p2, 3, none⟩ v') := (World.grownBy.ch (h.ch.alloc _) hg (fun b e => by cases e; exact .inr h.ch.size)).setCell _ _ (.inr new)
  refine ⟨⟨hr, ⟨hch, blk_other hb1' _ _ ne, Kd.C_below hr hch.below⟩, blk_set hb2' 3 v', hr'.keep (fun b hb => Below.heap_setCell _ _ _ b (fun e => hr'.ne hb2' (by simp) (by rw [hb, e]))), new, ne, pnew⟩, (blk_cell hb2' 3).trans rfl, blk_free hb2' 3, blk_lt hb2'⟩
/-- The variable's own row grows. -/
theorem L2.app (h : L2 N s t A c l w W p s2 t2 p2 v2 l2) {v' : Value} {l' : List S43} (hg : W.grownBy W' v2.ownBlock) (hr : RowA W' w.heap.size v' l') :
    L2 N s t A c l w (W'.setCell ⟨p2, 3, none⟩ v') p s2 t2 p2 v' l' ∧ W'.cell? ⟨p2, 3, none⟩ = some v2 ∧ W'.frozen? ⟨p2, 3, none⟩ = false ∧ p2 < W'.heap.size := by
  have hrow : ∀ b, v2.ownBlock = some b → w.heap.size ≤ b ∧ b ≠ p ∧ b ≠ p2 := fun b e =>
    ⟨(h.row.blk b e).1, fun hb => h.row.ne h.h.blk (by simp) (by rw [← hb]; exact e), fun hb => h.row.ne h.blk2 (by simp) (by rw [← hb]; exact e)⟩
  have hb2 := blk_grown hg h.blk2 (fun e => (hrow _ e).2.2 rfl)
  exact ⟨h.put hg hrow hr, (blk_cell hb2 3).trans rfl, blk_free hb2 3, blk_lt hb2⟩
/-- A third cell is written. -/
theorem L2.third (h : L2 N s t A c l w W p s2 t2 p2 v2 l2) (i : Nat) (hi : i < l2.length) (y : Int) : ∃ g c2, v2 = .slice (some ⟨g, 0, none⟩) l2.length c2 ∧ g < W.heap.size ∧ W.cell? ⟨g, i * 3 + 2, none⟩ = some (.int .i64 (rd_T43 l2 i).f2) ∧ W.frozen? ⟨g, i * 3 + 2, none⟩ = false ∧
    L2 N s t A c l w (W.setCell ⟨g, i * 3 + 2, none⟩ (.int .i64 y)) p s2 t2 p2 v2 (l2.set i ⟨(rd_T43 l2 i).f0, (rd_T43 l2 i).f1, y⟩) := by
  obtain ⟨g, c2, rfl, hlt, hc, hf, hr, hB⟩ := h.row.third i hi y
  have hg1 : p ≠ g := fun e => h.row.ne h.h.blk (by simp) (by rw [e]; rfl)
  have hg2 : p2 ≠ g := fun e => h.row.ne h.blk2 (by simp) (by rw [e]; rfl)
  have hch : Ch [] w (W.setCell ⟨g, i * 3 + 2, none⟩ (.int .i64 y)) := h.h.ch.setCell _ _ (.inr hB)
  exact ⟨g, c2, rfl, hlt, hc, hf, h.hr, ⟨hch, blk_other h.h.blk _ _ hg1, Kd.C_below h.hr hch.below⟩, blk_other h.blk2 _ _ hg2, hr, h.new, h.ne, h.pnew⟩
end
end Go.Proofs.Ytipfpckjgfjehaa

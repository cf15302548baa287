/-
  flow.Max: the walk.
-/
import Derived.Test.YtipfpckjgfjehaaF3
import Derived.Test.YtipfpckjgfjehaaF4
import Derived.Test.YtipfpckjgfjehaaP5
import Derived.Great.Ranges
import Derived.Deep.RegionHeld3
import Derived.Deep.AppendLies
import Derived.Tactics2
import Derived.WalkSpells
import Derived.StillTactics
namespace Go.Proofs.Ytipfpckjgfjehaa
set_option linter.unusedVariables false
set_option linter.unusedSimpArgs false
open Go.RowKit PFlowMaxSpec Go.Proofs.YtipfpckjgfjehaaW.PrintWords
attribute [local go_sem] Oper.semAt_some


set_option maxRecDepth 100000 in
theorem rest_built (N s t : Int) (A : Option Addr) (len c : Nat) : Try.prog.built 57 [(0, .agg #[.int .i64 N, .int .i64 s, .int .i64 t, .slice A len c])] = some (restCells N s t A len c (List.replicate 1024 0) (List.replicate 64 (.slice none 0 0))) := by
  kernel_rfl
set_option maxRecDepth 100000 in
theorem rest_ex (N s t : Int) (A : Option Addr) (len c : Nat) : ∃ rc, Aside0 (rc = restCells N s t A len c (List.replicate 1024 0) (List.replicate 64 (.slice none 0 0))) ∧ Try.prog.built 57 [(0, .agg #[.int .i64 N, .int .i64 s, .int .i64 t, .slice A len c])] = some rc := ⟨_, ⟨rfl⟩, rest_built N s t A len c⟩
theorem pl_build {P : Program} {ops : Array Oper} {rest : List Oper} {o : Oper} {a : Act} {w : World} {Q : Exit → Act → World → Prop} (hg : o.guard = none) (t : TypeId) (parts : Array (Nat × Operand)) (ho : o.op = .build t parts)
    (cs : Array Value) (hf : P.built t (parts.map fun (i, x) => (i, a.eval x)).toList = some cs) (h : wpList P ops Q rest (a.put o.dst (.agg cs)) w) : wpList P ops Q (o :: rest) a w :=
  wpList_build hg t parts ho (by rw [hf]; rfl) (by rw [hf]; exact h)

/-- The rows of the vertices' arcs. -/
structure ORows (W : World) (B : Nat) (g : Int → List Int) (outv : List Value) : Prop where
  len : outv.length = 64
  row : ∀ v : Nat, v < 64 → Row W B (outv.getD v (.slice none 0 0)) (g v)
  ne : ∀ u v : Nat, u < 64 → v < 64 → u ≠ v → ∀ b, (outv.getD u (.slice none 0 0)).ownBlock = some b → (outv.getD v (.slice none 0 0)).ownBlock ≠ some b
theorem ORows.keep {W W' : World} {B : Nat} {g : Int → List Int} {outv : List Value} (h : ORows W B g outv) (hk : ∀ (b : Nat) (cs : Array Value), W.heap[b]? = some (Obj.cells cs 3 (0, 0)) → W'.heap[b]? = W.heap[b]?) : ORows W' B g outv :=
  ⟨h.len, fun v hv => (h.row v hv).keep (fun b hb => by obtain ⟨_, cs, hcs⟩ := (h.row v hv).blk b hb; exact hk b cs hcs), h.ne⟩
theorem ORows.congr {W : World} {B : Nat} {g g' : Int → List Int} {outv : List Value} (h : ORows W B g outv) (hg : ∀ v : Nat, v < 64 → g v = g' v) : ORows W B g' outv :=
  ⟨h.len, fun v hv => by rw [← hg v hv]; exact h.row v hv, h.ne⟩
theorem ORows.append {W w' : World} {B : Nat} {g : Int → List Int} {outv : List Value} (h : ORows W B g outv) {u : Nat} (hu : u < 64) {v' : Value} {y : Int} (hr : Row w' B v' (g u ++ [y])) (hg : W.grownBy w' (outv.getD u (.slice none 0 0)).ownBlock)
    (hat : v'.ownBlock = (outv.getD u (.slice none 0 0)).ownBlock ∨ ∃ b, v'.ownBlock = some b ∧ W.heap.size ≤ b) : ORows w' B (fun v => if v = (u : Int) then g u ++ [y] else g v) (outv.set u v') := by
  have hself : (outv.set u v').getD u (.slice none 0 0) = v' := by rw [List.getD_eq_getElem?_getD, List.getElem?_set_self (by rw [h.len]; exact hu)]; rfl
  have hoth : ∀ v, v ≠ u → (outv.set u v').getD v (.slice none 0 0) = outv.getD v (.slice none 0 0) := fun v hv => by rw [List.getD_eq_getElem?_getD, List.getElem?_set_ne (Ne.symm hv), ← List.getD_eq_getElem?_getD]
  have hne' : ∀ v, v < 64 → v ≠ u → ∀ b, (outv.getD v (.slice none 0 0)).ownBlock = some b → v'.ownBlock ≠ some b := fun v hv hvu b hb hb' => by
    rcases hat with e | ⟨b', e, hb2⟩
    · exact h.ne v u hv hu hvu b hb (by rw [← e]; exact hb')
    · rw [e] at hb'; cases hb'
      have := ((h.row v hv).lt b hb).2; omega
  refine ⟨by rw [List.length_set]; exact h.len, fun v hv => ?_, fun a v ha hv hav b hb => ?_⟩
  · by_cases e : v = u
    · subst e; rw [hself, if_pos rfl]; exact hr
    · rw [hoth v e, if_neg (by omega)]
      exact (h.row v hv).grown hg (fun b hb hb' => h.ne v u hv hu e b hb hb')
  · by_cases e1 : a = u
    · subst e1
      rw [hself] at hb
      rw [hoth v (Ne.symm hav)]
      exact fun hb' => hne' v hv (Ne.symm hav) b hb' hb
    · rw [hoth a e1] at hb
      by_cases e2 : v = u
      · subst e2; rw [hself]; exact hne' a ha e1 b hb
      · rw [hoth v e2]; exact h.ne a v ha hv hav b hb

/-- The memory of Max. -/
structure MB (N s t : Int) (A : Option Addr) (c : Nat) (l : List S43) (w W : World) (nb xb pxb : Nat) (much : List Int) (g : Int → List Int) (outv : List Value) : Prop where
  ch : Ch [] w W
  nbb : W.heap[nb]? = some (.cells #[.int .i64 N, .int .i64 s, .int .i64 t, .slice A l.length c] 24 (0, 0))
  pxbb : W.heap[pxb]? = some (.cells #[.pointer (some ⟨xb, 0, none⟩)] 53 (0, 0))
  xbb : W.heap[xb]? = some (.cells (restCells N s t A l.length c much outv) 57 (0, 0))
  ml : much.length = 1024
  rows : ORows W xb g outv
  hxb : w.heap.size ≤ xb
section
variable {N s t : Int} {A : Option Addr} {c : Nat} {l : List S43} {w W W' : World} {nb xb pxb : Nat} {much : List Int} {g : Int → List Int} {outv : List Value}
theorem MB.move (h : MB N s t A c l w W nb xb pxb much g outv) (hc : Ch [] w W') (hk : ∀ (k : Nat) (cs : Array Value) (t : TypeId) (f : Nat × Nat), W.heap[k]? = some (Obj.cells cs t f) → W'.heap[k]? = some (Obj.cells cs t f)) : MB N s t A c l w W' nb xb pxb much g outv :=
  ⟨hc, hk _ _ _ _ h.nbb, hk _ _ _ _ h.pxbb, hk _ _ _ _ h.xbb, h.ml, h.rows.keep (fun b cs hb => by rw [hb]; exact hk _ _ _ _ hb), h.hxb⟩
theorem MB.alloc (h : MB N s t A c l w W nb xb pxb much g outv) (o : Obj) : MB N s t A c l w (W.alloc o) nb xb pxb much g outv := h.move (h.ch.alloc o) (fun _ _ _ _ hk => blk_alloc hk o)
theorem MB.drew (h : MB N s t A c l w W nb xb pxb much g outv) : MB N s t A c l w W.drew nb xb pxb much g outv := h.move h.ch.drew (fun _ _ _ _ hk => hk)
/-- A block of another kind is written. -/
theorem MB.other (h : MB N s t A c l w W nb xb pxb much g outv) {k : Nat} {cs : Array Value} {ty : TypeId} {f : Nat × Nat} (hk : W.heap[k]? = some (.cells cs ty f)) (h1 : ty ≠ 24) (h2 : ty ≠ 53) (h3 : ty ≠ 57) (h4 : ty ≠ 3) (hw : w.heap.size ≤ k) (i : Nat) (x : Value) : MB N s t A c l w (W.setCell ⟨k, i, none⟩ x) nb xb pxb much g outv :=
  ⟨h.ch.setCell _ _ (.inr hw), blk_other h.nbb _ _ (blk_ne h.nbb hk (by simp [Ne.symm h1])), blk_other h.pxbb _ _ (blk_ne h.pxbb hk (by simp [Ne.symm h2])), blk_other h.xbb _ _ (blk_ne h.xbb hk (by simp [Ne.symm h3])), h.ml,
    h.rows.keep (fun b cs hb => Below.heap_setCell _ _ _ b (blk_ne hb hk (by simp [Ne.symm h4]))), h.hxb⟩
theorem MB.setMuch (h : MB N s t A c l w W nb xb pxb much g outv) (i : Nat) (hi : i < 1024) (x : Int) : MB N s t A c l w (W.setCell ⟨xb, 4 + i, none⟩ (.int .i64 x)) nb xb pxb (much.set i x) g outv := by
  refine ⟨h.ch.setCell _ _ (.inr h.hxb), blk_other h.nbb _ _ (blk_ne h.nbb h.xbb (by simp)), blk_other h.pxbb _ _ (blk_ne h.pxbb h.xbb (by simp)), ?_, by rw [List.length_set]; exact h.ml,
    h.rows.keep (fun b cs hb => Below.heap_setCell _ _ _ b (blk_ne hb h.xbb (by simp))), h.hxb⟩
  have := blk_set h.xbb (4 + i) (.int .i64 x)
  rwa [rest_set_much i (by rw [h.ml]; exact hi) x] at this
theorem MB.append (h : MB N s t A c l w W nb xb pxb much g outv) {u : Nat} (hu : u < 64) {v' : Value} {y : Int} (hr : Row W' xb v' (g u ++ [y])) (hg : W.grownBy W' (outv.getD u (.slice none 0 0)).ownBlock)
    (hat : v'.ownBlock = (outv.getD u (.slice none 0 0)).ownBlock ∨ ∃ b, v'.ownBlock = some b ∧ W.heap.size ≤ b) : MB N s t A c l w (W'.setCell ⟨xb, 1028 + u, none⟩ v') nb xb pxb much (fun v => if v = (u : Int) then g u ++ [y] else g v) (outv.set u v') := by
  have hrow := h.rows.row u hu
  have far : ∀ {b : Nat} {cs : Array Value} {ty : TypeId}, W.heap[b]? = some (.cells cs ty (0, 0)) → ty ≠ 3 → W'.heap[b]? = some (.cells cs ty (0, 0)) := fun hb ht => blk_grown hg hb (hrow.ne hb (by simp [ht]))
  have hx := far h.xbb (by simp)
  refine ⟨(World.grownBy.ch h.ch hg (fun b hb => .inr (Nat.le_trans h.hxb (hrow.blk b hb).1))).setCell _ _ (.inr h.hxb), blk_other (far h.nbb (by simp)) _ _ (blk_ne h.nbb h.xbb (by simp)), blk_other (far h.pxbb (by simp)) _ _ (blk_ne h.pxbb h.xbb (by simp)), ?_, h.ml,
    (h.rows.append hu hr hg hat).keep (fun b cs hb => Below.heap_setCell _ _ _ b (blk_ne hb hx (by simp))), h.hxb⟩
  have := blk_set hx (1028 + u) v'
  rwa [rest_set_out h.ml u v'] at this
theorem MB.app (h : MB N s t A c l w W nb xb pxb much g outv) {u : Int} (hu0 : 0 ≤ u) (hu : u < 64) {rv : Value} (hrv : rv = outv.getD u.toNat (.slice none 0 0)) {gg cap : Nat} {y : Int} (hown : W'.ownsRow xb 3 1 (.slice (some ⟨gg, 0, none⟩) ((g u).length + 1) cap) ((g u).length + 1) ((g u).map (Value.int .i64) ++ [.int .i64 y]))
    (hg : W.grownBy W' rv.ownBlock) (hat : rv.ownBlock = some gg ∨ gg = W.heap.size) {ab : Nat} {cs : Array Value} (hab : W.heap[ab]? = some (.cells cs 43 (0, 0))) :
    MB N s t A c l w (W'.setCell ⟨xb, 1028 + u.toNat, none⟩ (.slice (some ⟨gg, 0, none⟩) ((g u).length + 1) cap)) nb xb pxb much (fun v => if v = u then g u ++ [y] else g v) (outv.set u.toNat (.slice (some ⟨gg, 0, none⟩) ((g u).length + 1) cap)) ∧
    (W'.setCell ⟨xb, 1028 + u.toNat, none⟩ (.slice (some ⟨gg, 0, none⟩) ((g u).length + 1) cap)).heap[ab]? = some (.cells cs 43 (0, 0)) := by
  obtain ⟨n, rfl⟩ : ∃ n : Nat, u = n := ⟨u.toNat, by omega⟩
  rw [Int.toNat_natCast] at hrv ⊢
  subst hrv
  have hrow := h.rows.row n (by omega)
  refine ⟨h.append (by omega) (row_appended hown) hg (hat.elim (fun e => .inl e.symm) (fun e => .inr ⟨gg, rfl, by omega⟩)), ?_⟩
  exact blk_other (blk_grown hg hab (hrow.ne hab (by simp))) _ _ (blk_ne hab h.xbb (by simp))
theorem MB.congr (h : MB N s t A c l w W nb xb pxb much g outv) {g' : Int → List Int} (hg : ∀ v : Nat, v < 64 → g v = g' v) : MB N s t A c l w W nb xb pxb much g' outv :=
  ⟨h.ch, h.nbb, h.pxbb, h.xbb, h.ml, h.rows.congr hg, h.hxb⟩
end


/-- The environment of levels and push. -/
def envOf (N s t : Int) (A : Option Addr) (c : Nat) (l : List S43) (outv : List Value) (xb : Nat) : Env := ⟨N, s, t, A, c, l, outv, outK l l.length, xb⟩
theorem envOf_ok {N s t : Int} {A : Option Addr} {c : Nat} {l : List S43} {outv : List Value} {xb : Nat} (h : NetOk N s t l) (ho : outv.length = 64) : (envOf N s t A c l outv xb).Ok :=
  ⟨⟨h.arg.1, h.arg.2.1⟩, inV_true.1 h.arg.2.2.1, inV_true.1 h.arg.2.2.2.1, h.len, ho, fun v _ _ => ⟨by have := outK_length l l.length v; have := h.len; show (outK l l.length v).length ≤ 1024; omega, fun i hi => by
    obtain ⟨i0, i1, _⟩ := mem_outK hi
    exact ⟨i0, i1, h.head i i0 i1⟩⟩⟩
theorem MB.data {N s t : Int} {A : Option Addr} {c : Nat} {l : List S43} {w W W' : World} {nb xb pxb : Nat} {much : List Int} {outv : List Value} (h : MB N s t A c l w W nb xb pxb much (outK l l.length) outv) (hn : NetOk N s t l) (hr : Kd.C k43 w A l.length l) {S : List Nat} (hc : Ch S W W')
    (hS : ∀ b, b ∈ S → w.heap.size ≤ b ∧ ∃ cs ty f, W.heap[b]? = some (Obj.cells cs ty f) ∧ ty ≠ 3) : (envOf N s t A c l outv xb).Data W' := by
  refine ⟨Kd.C_below hr (h.ch.trans hc (fun i hi => .inr (hS i hi).1)).below, fun v v0 v1 => ?_⟩
  have hN : N ≤ 64 := hn.arg.2.1
  have v1' : v < N := v1
  have e : ((v.toNat : Nat) : Int) = v := by omega
  have hrow := h.rows.row v.toNat (by omega)
  rw [e] at hrow
  have hrow' : Row W' xb (outv.getD v.toNat (.slice none 0 0)) (outK l l.length v) := hrow.keep (fun b hb => by
    obtain ⟨_, cs, hcs⟩ := hrow.blk b hb
    refine hc.block b (blk_lt hcs) (fun hin => ?_)
    obtain ⟨_, cs', ty, f, hb', hty⟩ := hS b hin
    rw [hcs] at hb'
    cases hb'
    exact hty rfl)
  obtain ⟨Av, cv, hv⟩ := hrow'.val
  have hget : outv[v.toNat]? = some (outv.getD v.toNat (.slice none 0 0)) := by
    rw [List.getD_eq_getElem?_getD, List.getElem?_eq_getElem (by rw [h.rows.len]; omega)]; rfl
  refine ⟨Av, cv, by show outv[v.toNat]? = _; rw [hget, hv]; rfl, fun k hk => ?_⟩
  obtain ⟨ad, c', e1, hc1⟩ := hrow'.at k hk
  rw [hv] at e1
  cases e1
  exact ⟨ad, rfl, hc1⟩
theorem Ch.setRow {S : List Nat} {a w : World} (h : Ch S a w) (g : Nat) (cs : Array Value) (hg : g ∈ S ∨ a.heap.size ≤ g) : Ch S a (w.setRow g cs) :=
  ⟨h.os, h.tape, h.output, by rw [size_setRow]; exact h.size, fun k hk hS => (setRow_other w g k _ (fun e => by subst e; exact hg.elim hS (fun h' => by omega))).trans (h.block k hk hS)⟩
/-- The levels are written. -/
theorem MB.setLev {N s t : Int} {A : Option Addr} {c : Nat} {l : List S43} {w W : World} {nb xb pxb : Nat} {much : List Int} {outv : List Value} {g : Int → List Int} (h : MB N s t A c l w W nb xb pxb much g outv) {lb : Nat} {cs : Array Value} (hl : W.heap[lb]? = some (.cells cs 49 (0, 0))) (hw : w.heap.size ≤ lb) (cs' : Array Value) :
    MB N s t A c l w (W.setRow lb cs') nb xb pxb much g outv ∧ (W.setRow lb cs').heap[lb]? = some (.cells cs' 49 (0, 0)) :=
  ⟨⟨h.ch.setRow lb cs' (.inr hw), (setRow_other W lb _ _ (blk_ne h.nbb hl (by simp))).trans h.nbb, (setRow_other W lb _ _ (blk_ne h.pxbb hl (by simp))).trans h.pxbb, (setRow_other W lb _ _ (blk_ne h.xbb hl (by simp))).trans h.xbb, h.ml,
    h.rows.keep (fun b cs'' hb => setRow_other W lb _ _ (blk_ne hb hl (by simp))), h.hxb⟩, setRow_heap W lb _ _ _ _ hl⟩
/-- The memory of Max at its end. -/
structure ME (N s t : Int) (A : Option Addr) (c : Nat) (l : List S43) (w W : World) (nb xb pxb lb : Nat) (much : List Int) (outv : List Value) (lev : List Int) : Prop where
  ch : Ch [] w W
  nbb : W.heap[nb]? = some (.cells #[.int .i64 N, .int .i64 s, .int .i64 t, .slice A l.length c] 24 (0, 0))
  pxbb : W.heap[pxb]? = some (.cells #[.pointer (some ⟨xb, 0, none⟩)] 53 (0, 0))
  xbb : W.heap[xb]? = some (.cells (restCells N s t A l.length c much outv) 57 (0, 0))
  lbb : W.heap[lb]? = some (.cells (intsOf lev) 49 (0, 0))
theorem ME.grown {N s t : Int} {A : Option Addr} {c : Nat} {l : List S43} {w W W' : World} {nb xb pxb lb : Nat} {much : List Int} {outv : List Value} {lev : List Int} (h : ME N s t A c l w W nb xb pxb lb much outv lev) {v : Value}
    {e : TypeId} (he : ∀ ty : TypeId, ty = 24 ∨ ty = 53 ∨ ty = 57 ∨ ty = 49 → ty ≠ e) (hne : ∀ {g : Nat} {o : Obj}, W.heap[g]? = some o → (∀ cs, o ≠ .cells cs e (0, 0)) → v.ownBlock ≠ some g) (hg : W.grownBy W' v.ownBlock) (hb : ∀ b, v.ownBlock = some b → w.heap.size ≤ b) : ME N s t A c l w W' nb xb pxb lb much outv lev := by
  have far : ∀ {b : Nat} {cs : Array Value} {ty : TypeId}, W.heap[b]? = some (.cells cs ty (0, 0)) → ty ≠ e → W'.heap[b]? = some (.cells cs ty (0, 0)) := fun hb' ht => blk_grown hg hb' (hne hb' (by simp [ht]))
  exact ⟨World.grownBy.ch h.ch hg (fun b h' => .inr (hb b h')), far h.nbb (he _ (by simp)), far h.pxbb (he _ (by simp)), far h.xbb (he _ (by simp)), far h.lbb (he _ (by simp))⟩
/-- A row of truth values of the call's own. -/
def RowB (w : World) (B : Nat) (v : Value) (xs : List Bool) : Prop := w.ownsRow B 4 1 v xs.length (xs.map Value.bool)
theorem RowB.val {w : World} {B : Nat} {v : Value} {xs : List Bool} (h : RowB w B v xs) : ∃ A c, v = .slice A xs.length c := own_slice h
theorem RowB.nil (w : World) (B : Nat) : RowB w B (.slice none 0 0) [] := World.ownsRow_nil w B 4 1
theorem RowB.blk {w : World} {B : Nat} {v : Value} {xs : List Bool} (h : RowB w B v xs) (b : Nat) (hb : v.ownBlock = some b) : B ≤ b ∧ ∃ cs, w.heap[b]? = some (.cells cs 4 (0, 0)) := ⟨(h.lt b hb).1, own_typed h b hb⟩
theorem RowB.ne {w : World} {B : Nat} {v : Value} {xs : List Bool} (h : RowB w B v xs) {g : Nat} {o : Obj} (hg : w.heap[g]? = some o) (ho : ∀ cs, o ≠ .cells cs 4 (0, 0)) : v.ownBlock ≠ some g := by
  intro e
  obtain ⟨_, cs, hcs⟩ := h.blk g e
  rw [hg] at hcs
  exact ho cs (Option.some.inj hcs)
theorem pl_append_rowB {P : Program} {ops : Array Oper} {rest : List Oper} {o : Oper} {a : Act} {Q : Exit → Act → World → Prop} (s x : Operand) (t : TypeId) (v : Value) (xs : List Bool) (y : Bool) (B g : Nat) (W : World) (hgd : o.guard = none)
    (ho : o.op = .call { callee := .builtin .append, args := #[s, x], argTypes := #[t, t] })
    (ht : P.underlying t = some (.slice 4)) (hinfo : (P.info? 4).map (fun i => (i.zero, i.size, i.bytes)) = some (some (.bool false), 1, 1))
    (hs : a.eval s = v) (hx : a.eval x = .slice (some ⟨g, 0, none⟩) 1 1) (hgW : W.heap.size = g) (HO : RowB W B v xs) (hB : B ≤ W.heap.size) (hl : xs.length ≤ 100000)
    (h : ∀ v' w', RowB w' B v' (xs ++ [y]) → W.grownBy w' v.ownBlock → wpList P ops Q rest (a.put o.dst v') w') :
    wpList P ops Q (o :: rest) a (W.alloc (.cells #[.bool y] 4)) := by
  subst hgW
  obtain ⟨i0, hi, hz0, hz1, hz2⟩ := info_parts hinfo
  refine wpList_append_own_at (W.alloc (.cells #[.bool y] 4)) hgd s x t ho B 4 i0 (.bool false) 1 1 ht hi hz0 hz1 hz2 rfl (by decide) v xs.length (xs.map Value.bool) hs (HO.alloc _) ⟨W.heap.size, 0, none⟩ 1 1 [.bool y] hx rfl
    (cell_one_new _ _ _) (by simp [Value.oneCell']) (by simp only [maxLen]; omega) (by omega) (by simp; omega) ?_
  intro v' w' hown hg _ _
  refine h v' w' ?_ (World.grownBy.trans (World.grownBy_alloc W _ _) hg)
  unfold RowB
  rw [List.length_append, List.map_append]
  exact hown
def xK (much : List Int) (n : Nat) : List Int := (List.range n).map fun k : Nat => gi much (2 * k + 1)
theorem xK_succ (much : List Int) (n : Nat) : xK much (n + 1) = xK much n ++ [gi much (2 * n + 1)] := by unfold xK; rw [List.range_succ, List.map_append]; rfl
def sK (lev : List Int) (n : Nat) : List Bool := (List.range n).map fun v : Nat => decide (0 ≤ gi lev v)
theorem sK_succ (lev : List Int) (n : Nat) : sK lev (n + 1) = sK lev n ++ [decide (0 ≤ gi lev n)] := by unfold sK; rw [List.range_succ, List.map_append]; rfl
/-- Behind a push. -/
theorem MB.push {N s t : Int} {A : Option Addr} {c : Nat} {l : List S43} {w W W' : World} {nb xb pxb : Nat} {much : List Int} {outv : List Value} {g : Int → List Int} (h : MB N s t A c l w W nb xb pxb much g outv) {lev : List Int} {b : PB} {db : Nat} (hc : Ch [xb, db] W W') (hdb : w.heap.size ≤ db) {cs : Array Value} (hd : W.heap[db]? = some (.cells cs 59 (0, 0)))
    {st : PS} (hm : PMem (envOf N s t A c l outv xb) lev b W' st) (hml : st.much.length = 1024) (e1 : b.nb = nb) (e2 : b.pxb = pxb) : MB N s t A c l w W' nb xb pxb st.much g outv := by
  subst e1 e2
  refine ⟨h.ch.trans hc (fun i hi => .inr ?_), hm.nbb, hm.pxbb, hm.xbb, hml, h.rows.keep (fun k cs' hk => ?_), h.hxb⟩
  · simp only [List.mem_cons, List.not_mem_nil, or_false] at hi
    rcases hi with rfl | rfl
    · exact h.hxb
    · exact hdb
  · refine hc.block k (blk_lt hk) (fun hin => ?_)
    simp only [List.mem_cons, List.not_mem_nil, or_false] at hin
    rcases hin with rfl | rfl
    · rw [h.xbb] at hk; cases hk
    · rw [hd] at hk; cases hk


set_option maxHeartbeats 4000000 in
theorem max_bad (N s t : Int) (A : Option Addr) (c : Nat) (l : List S43) (w : World) (hr : Kd.C k43 w A l.length l) (hl : l.length ≤ 100000) (hz : chk N s t l ≠ 0) :
    Calls Try.prog 18 #[.agg #[.int .i64 N, .int .i64 s, .int .i64 t, .slice A l.length c]] w fun e w' => e = .returned (.tuple #[.slice none 0 0, .slice none 0 0, .int .i64 (chk N s t l)]) ∧ Ch [] w w' := by
  have HR := Aside0.mk hr
  have HLL := Aside0.mk hl
  clear hr
  generalize hq : chk N s t l = q at hz
  have HZ := Aside0.mk hq
  clear hq
  have b1 : (q != 0) = true := by simpa using hz
  go_enter Try.func18, Try.ntmps18
  go_wp2_with (go_at_call 15; refine (check_calls N s t A c l _ (Kd.C_alloc HR.out _) HLL.out).mono ?_; rintro e w1 ⟨he, hc⟩; rw [HZ.out] at he; subst he; have HBK := Aside0.mk (hc.at (blk_new w (.cells #[.int .i64 N, .int .i64 s, .int .i64 t, .slice A l.length c] 24 (0, 0))) (by simp)); have HC := Aside0.mk (((Ch.refl [] w).alloc (.cells #[.int .i64 N, .int .i64 s, .int .i64 t, .slice A l.length c] 24 (0, 0))).trans_same hc); clear hc; have k0 := blk_cell HBK.out 0; have k1 := blk_cell HBK.out 1; have k2 := blk_cell HBK.out 2; have k3 := blk_cell HBK.out 3; simp only [List.getElem?_toArray, List.getElem?_cons_succ, List.getElem?_cons_zero] at k0 k1 k2 k3; have kb := blk_lt HBK.out)
  go_ret3
  exact ⟨rfl, HC.out⟩


set_option maxHeartbeats 4000000 in
set_option warningAsError false in
theorem max_calls (N s t : Int) (A : Option Addr) (c : Nat) (l : List S43) (w : World) (hr : Kd.C k43 w A l.length l) (hz : chk N s t l = 0) :
    Calls Try.prog 18 #[.agg #[.int .i64 N, .int .i64 s, .int .i64 t, .slice A l.length c]] w fun e w' => ∃ v2 v3 x side, e = .returned (.tuple #[v2, v3, .int .i64 0]) ∧ Ch [] w w' ∧ MaxRes N s t l x side ∧ Row w' w.heap.size v2 x ∧ RowB w' w.heap.size v3 side := by
  have HNet := Aside0.mk (NetOk.of hz)
  have HR := Aside0.mk hr
  have hl5 := HNet.out.len
  have HLL := Aside0.mk (show l.length ≤ 100000 by omega)
  have HZ := Aside0.mk hz
  clear hr hz
  go_enter Try.func18, Try.ntmps18
  go_upto_region 4 with (go_at_call 15; refine (check_calls N s t A c l _ (Kd.C_alloc HR.out _) HLL.out).mono ?_; rintro e w1 ⟨he, hc⟩; rw [HZ.out] at he; subst he; have HBK := Aside0.mk (hc.at (blk_new w (.cells #[.int .i64 N, .int .i64 s, .int .i64 t, .slice A l.length c] 24 (0, 0))) (by simp)); have HC := Aside0.mk (((Ch.refl [] w).alloc (.cells #[.int .i64 N, .int .i64 s, .int .i64 t, .slice A l.length c] 24 (0, 0))).trans_same hc); clear hc; have k0 := blk_cell HBK.out 0; have k1 := blk_cell HBK.out 1; have k2 := blk_cell HBK.out 2; have k3 := blk_cell HBK.out 3; simp only [List.getElem?_toArray, List.getElem?_cons_succ, List.getElem?_cons_zero] at k0 k1 k2 k3; have kb := blk_lt HBK.out)
  obtain ⟨rc, HRC, hbu⟩ := rest_ex N s t A l.length c
  go_wp2_with (first | (refine pl_build rfl 57 #[(0, .tmp 19)] rfl rc ?hb ?_; (case hb => (simp only [List.map_toArray, List.map_cons, List.map_nil]; exact hbu))) | (refine Great.wpList_boxTo rfl 57 _ rfl (some 21) rfl w1.heap.size rfl rc rfl ?_))
  refine wp_abs (fun W => MB N s t A c l w W w.heap.size w1.heap.size (w1.heap.size + 1) (much0 l 0) (outK l 0) (List.replicate 64 (.slice none 0 0))) ?_ ?_
  · have h2 := blk_new (w1.alloc (.cells rc 57)) (.cells #[.pointer (some ⟨w1.heap.size, 0, none⟩)] 53)
    rw [World.size_alloc] at h2
    refine ⟨(HC.out.alloc _).alloc _, blk_alloc (blk_alloc HBK.out _) _, h2, ?_, List.length_replicate, ⟨List.length_replicate, fun v hv => ?_, fun u v hu hv _ b hb => ?_⟩, HC.out.size⟩
    · rw [blk_alloc (blk_new w1 (.cells rc 57)) _, HRC.out]; rfl
    · rw [List.getD_eq_getElem?_getD, List.getElem?_replicate, if_pos hv]; exact Row.nil _ _
    · rw [List.getD_eq_getElem?_getD, List.getElem?_replicate, if_pos hu] at hb; cases hb
  obtain ⟨nb, hnb⟩ : ∃ nb, nb = w.heap.size := ⟨_, rfl⟩
  obtain ⟨xb, hxb⟩ : ∃ xb, xb = w1.heap.size := ⟨_, rfl⟩
  obtain ⟨pxb, hpxb⟩ : ∃ pxb, pxb = w1.heap.size + 1 := ⟨_, rfl⟩
  have hbig := Aside0.mk (HC.out.size)
  rw [← hnb, ← hpxb, ← hxb]
  rw [← hxb] at hbig
  clear HC HBK k0 k1 k2 k3 kb HRC hbu hnb hxb hpxb w1
  intro W hW
  have HW := Aside0.mk hW
  clear hW
  go_loopw [25] (fun i wr => ∃ k : Nat, k ≤ l.length ∧ i = .int .i64 k ∧ Aside0 (∃ outv, MB N s t A c l w wr nb xb pxb (much0 l k) (outK l k) outv)) (fun i wr => l.length - (intOf i).toNat)
  case atStart => exact ⟨0, by omega, rfl, ⟨⟨_, HW.out⟩⟩⟩
  case round =>
    obtain ⟨k, hk, rfl, hrel⟩ := hrel
    clear HW
    obtain ⟨outv, hmb⟩ := hrel.out
    clear hrel
    by_cases hlt : k < l.length
    · obtain ⟨ad, rfl, c0, c1, c2⟩ := at_T43 (Kd.C_below HR.out hmb.ch.below) k (by omega) (by omega)
      simp only [Int.toNat_natCast] at c0 c1 c2
      have hok := HNet.out.arcs k hlt
      have HMB := Aside0.mk hmb
      have hx : ∃ y, rd_T43 l k = y := ⟨_, rfl⟩
      obtain ⟨y, hx⟩ := hx
      have HX := Aside0.mk hx
      rw [hx] at c0 c1 c2 hok
      obtain ⟨y0, y1, y2⟩ := y
      obtain ⟨i0, i1, hne, i2, i3⟩ := hok
      simp only at c0 c1 c2 i0 i1 i2 i3 hne
      obtain ⟨i00, i01⟩ := inV_true.1 i0
      obtain ⟨i10, i11⟩ := inV_true.1 i1
      have hN64 := HNet.out.arg.2.1
      have y064 : y0 < 64 := by omega
      have y164 : y1 < 64 := by omega
      clear hx i0 i1 hmb
      go_wp2
      refine wp_abs (fun W2 => MB N s t (some ad) c l w W2 nb xb pxb (much0 l k) (outK l k) outv ∧ W2.heap[wr.heap.size]? = some (.cells #[.int .i64 y0, .int .i64 y1, .int .i64 y2] 43 (0, 0))) ⟨HMB.out.alloc _, blk_new _ _⟩ ?_
      obtain ⟨ab, hab⟩ : ∃ ab, ab = wr.heap.size := ⟨_, rfl⟩
      have HAB := Aside0.mk (show w.heap.size ≤ ab by rw [hab]; exact HMB.out.ch.size)
      rw [← hab]
      clear hab c0 c1 c2 HMB wr
      intro W2 ⟨hmb, harc⟩
      have px := blk_cell hmb.pxbb 0
      have a2 := blk_cell harc 2
      simp only [List.getElem?_toArray, List.getElem?_cons_succ, List.getElem?_cons_zero] at px a2
      have mc : W2.cell? ⟨xb, 4 + 2 * k, none⟩ = some (.int .i64 ((much0 l k).getD (2 * k) 0)) := (blk_cell hmb.xbb _).trans (rest_much _ (by rw [hmb.ml]; omega))
      have mf := blk_free hmb.xbb (4 + 2 * k)
      generalize (much0 l k).getD (2 * k) 0 = mv at mc
      have H := Aside0.mk (And.intro hmb harc)
      clear hmb harc
      refine region_tail_plain_q 8 rfl (by kernel_rfl) ?_
      simp only [List.take_succ_cons, List.take_zero, List.drop_succ_cons, List.drop_zero]
      repeat (go_big_quiet_step (fail))
      refine wpQuiet_nil ?_
      go_wp2
      refine wp_abs (fun W3 => MB N s t (some ad) c l w W3 nb xb pxb (much0 l (k + 1)) (outK l k) outv ∧ W3.heap[ab]? = some (.cells #[.int .i64 y0, .int .i64 y1, .int .i64 y2] 43 (0, 0))) ?_ ?_
      · refine ⟨?_, blk_other (show W2.drew.heap[ab]? = _ from H.out.2) _ _ (blk_ne H.out.2 H.out.1.xbb (by simp))⟩
        have := (H.out.1.drew).setMuch (2 * k) (by omega) y2
        show MB N s t (some ad) c l w _ nb xb pxb ((much0 l k).set (2 * k) (rd_T43 l k).f2) (outK l k) outv
        rw [HX.out]
        exact this
      clear H px a2 mc mf W2
      intro W2 H0
      have H := Aside0.mk H0
      clear H0
      obtain ⟨i0, hi0, hz0, hz1, hz2⟩ := info_parts info3
      have hwr : IntKind.i64.wrap (2 * (k : Int)) = 2 * (k : Int) := by rw [IntKind.wrap_i64]; omega
      have hwr1 : IntKind.i64.wrap (2 * (k : Int) + 1) = 2 * (k : Int) + 1 := by rw [IntKind.wrap_i64]; omega
      have HXW := Aside0.mk (show xb ≤ W2.heap.size from Nat.le_of_lt (blk_lt H.out.1.xbb))
      have px := blk_cell H.out.1.pxbb 0
      have aa := blk_cell H.out.2 0
      simp only [List.getElem?_toArray, List.getElem?_cons_succ, List.getElem?_cons_zero] at px aa
      have hul : y0.toNat < 64 := by omega
      obtain ⟨rv, hrv⟩ : ∃ rv, rv = outv.getD y0.toNat (.slice none 0 0) := ⟨_, rfl⟩
      have hrow := H.out.1.rows.row y0.toNat hul
      rw [← hrv] at hrow
      have ey0 : ((y0.toNat : Nat) : Int) = y0 := by omega
      rw [ey0] at hrow
      have rc1 : W2.cell? ⟨xb, 1028 + y0.toNat, none⟩ = some rv := (blk_cell H.out.1.xbb _).trans ((rest_out H.out.1.ml _).trans (by rw [hrv, List.getD_eq_getElem?_getD, List.getElem?_eq_getElem (by rw [H.out.1.rows.len]; exact hul)]; rfl))
      have rf1 := blk_free H.out.1.xbb (1028 + y0.toNat)
      have HROW := Aside0.mk hrow
      have hlx := blk_lt H.out.1.xbb
      have hlp := blk_lt H.out.1.pxbb
      have hla := blk_lt H.out.2
      have ng1 : rv.ownBlock ≠ some xb := hrow.ne H.out.1.xbb (by simp)
      have ng2 : rv.ownBlock ≠ some pxb := hrow.ne H.out.1.pxbb (by simp)
      have ng3 : rv.ownBlock ≠ some ab := hrow.ne H.out.2 (by simp)
      have nb1 : pxb ≠ xb := blk_ne H.out.1.pxbb H.out.1.xbb (by simp)
      have nb2 : ab ≠ xb := blk_ne H.out.2 H.out.1.xbb (by simp)
      have HRV := Aside0.mk hrv
      clear hrow hrv ey0
      have HLN := Aside0.mk (show ((outK l k y0).length) + 1 ≤ maxLen ∧ (((outK l k y0).length) + 1) * 8 ≤ 140737488355328 by have := outK_length l k y0; have := outK_length l k y1; simp only [maxLen];  omega)
      go_region_held3 (fun w' => w'.cell? ⟨pxb, 0, none⟩ = some (.pointer (some ⟨xb, 0, none⟩)) ∧ w'.cell? ⟨ab, 0, none⟩ = some (.int .i64 y0))
        (first | go_keep | exact ⟨(World.cell?_of_block (Below.heap_setCell _ _ _ _ nb1)).trans px2, (World.cell?_of_block (Below.heap_setCell _ _ _ _ nb2)).trans aa2⟩)
        (((refine step_append_lies _ (by rfl) _ _ _ (by rfl) xb 3 i0 _ 1 8 Try.underlying25 hi0 hz0 hz1 hz2 rfl (by omega) rv (outK l k y0).length ((outK l k y0).map (Value.int .i64)) (by rfl) ((HROW.out.alloc _).drew) ⟨W2.heap.size, 0, none⟩ 1 1 [.int .i64 (2 * (k : Int))] (by rfl) (by rfl) (World.news_of_block (cs := #[.int .i64 (2 * (k : Int))]) (t := 3) (fr := (0, 0)) (heap_alloc_new W2 _)) (by simp [Value.oneCell']) (by omega) HLN.out.1 HLN.out.2 (by have := HXW.out; simp; omega) (W2.heap.size + 1) (by simp) ?_; intro gg cap w1 hown1 hgrow hat hlt1; have hxx := blk_grown hgrow (show ((W2.alloc (.cells #[.int .i64 (2 * (k : Int))] 3)).drew).heap[xb]? = some (.cells (restCells N s t (some ad) l.length c (much0 l (k + 1)) outv) 57 (0, 0)) from blk_alloc H.out.1.xbb _) ng1; have rc2 := (blk_cell hxx (1028 + y0.toNat)).trans ((blk_cell H.out.1.xbb (1028 + y0.toNat)).symm.trans rc1); have rf2 := blk_free hxx (1028 + y0.toNat); clear hxx; have hpp := blk_grown hgrow (show ((W2.alloc (.cells #[.int .i64 (2 * (k : Int))] 3)).drew).heap[pxb]? = some (.cells #[.pointer (some ⟨xb, 0, none⟩)] 53 (0, 0)) from blk_alloc H.out.1.pxbb _) ng2; have px2 := blk_cell hpp 0; have haa := blk_grown hgrow (show ((W2.alloc (.cells #[.int .i64 (2 * (k : Int))] 3)).drew).heap[ab]? = some (.cells #[.int .i64 y0, .int .i64 y1, .int .i64 y2] 43 (0, 0)) from blk_alloc H.out.2 _) ng3; have aa2 := blk_cell haa 0; clear hpp haa; simp only [List.getElem?_toArray, List.getElem?_cons_succ, List.getElem?_cons_zero] at px2 aa2)))
      all_goals (
        go_wp2
        refine wp_abs (fun W3 => ∃ outv g1, (MB N s t (some ad) c l w W3 nb xb pxb (much0 l (k + 1)) g1 outv ∧ W3.heap[ab]? = some (.cells #[.int .i64 y0, .int .i64 y1, .int .i64 y2] 43 (0, 0))) ∧ Aside0 (g1 = fun v => if v = y0 then outK l k y0 ++ [2 * (k : Int)] else outK l k v)) ?_ ?_
        · exact ⟨_, _, MB.app (H.out.1.alloc _).drew i00 y064 HRV.out hown1 hgrow (by rcases hat with e | e; exact .inl e; exact .inr (by simp [e])) (blk_alloc H.out.2 _), ⟨rfl⟩⟩
        clear H HRV HROW hown1 hgrow hat hlt1 px2 aa2 rc2 rf2 HLN ng1 ng2 ng3 nb1 nb2 hlx hlp hla rc1 rf1 px aa hul HXW
        rintro W2 ⟨outv, g1, H0, hG⟩
        have H := Aside0.mk H0
        have HG : Aside0 (g1 y1 = if y1 = y0 then outK l k y0 ++ [2 * (k : Int)] else outK l k y1) := ⟨by rw [hG.out]⟩
        clear H0
        have HXW := Aside0.mk (show xb ≤ W2.heap.size from Nat.le_of_lt (blk_lt H.out.1.xbb))
        have px := blk_cell H.out.1.pxbb 0
        have aa := blk_cell H.out.2 1
        simp only [List.getElem?_toArray, List.getElem?_cons_succ, List.getElem?_cons_zero] at px aa
        have hul : y1.toNat < 64 := by omega
        obtain ⟨rv, hrv⟩ : ∃ rv, rv = outv.getD y1.toNat (.slice none 0 0) := ⟨_, rfl⟩
        have hrow := H.out.1.rows.row y1.toNat hul
        rw [← hrv] at hrow
        have ey0 : ((y1.toNat : Nat) : Int) = y1 := by omega
        rw [ey0] at hrow
        have rc1 : W2.cell? ⟨xb, 1028 + y1.toNat, none⟩ = some rv := (blk_cell H.out.1.xbb _).trans ((rest_out H.out.1.ml _).trans (by rw [hrv, List.getD_eq_getElem?_getD, List.getElem?_eq_getElem (by rw [H.out.1.rows.len]; exact hul)]; rfl))
        have rf1 := blk_free H.out.1.xbb (1028 + y1.toNat)
        have HROW := Aside0.mk hrow
        have hlx := blk_lt H.out.1.xbb
        have hlp := blk_lt H.out.1.pxbb
        have hla := blk_lt H.out.2
        have ng1 : rv.ownBlock ≠ some xb := hrow.ne H.out.1.xbb (by simp)
        have ng2 : rv.ownBlock ≠ some pxb := hrow.ne H.out.1.pxbb (by simp)
        have ng3 : rv.ownBlock ≠ some ab := hrow.ne H.out.2 (by simp)
        have nb1 : pxb ≠ xb := blk_ne H.out.1.pxbb H.out.1.xbb (by simp)
        have nb2 : ab ≠ xb := blk_ne H.out.2 H.out.1.xbb (by simp)
        have HRV := Aside0.mk hrv
        clear hrow hrv ey0
        have HLN := Aside0.mk (show ((g1 y1).length) + 1 ≤ maxLen ∧ (((g1 y1).length) + 1) * 8 ≤ 140737488355328 by have h1 := HG.out; have := outK_length l k y1; rw [if_neg (Ne.symm hne)] at h1; rw [h1]; simp only [maxLen]; omega)
        go_region_held3 (fun w' => w'.cell? ⟨pxb, 0, none⟩ = some (.pointer (some ⟨xb, 0, none⟩)) ∧ w'.cell? ⟨ab, 1, none⟩ = some (.int .i64 y1))
          (first | go_keep | exact ⟨(World.cell?_of_block (Below.heap_setCell _ _ _ _ nb1)).trans px2, (World.cell?_of_block (Below.heap_setCell _ _ _ _ nb2)).trans aa2⟩)
          (((refine step_append_lies _ (by rfl) _ _ _ (by rfl) xb 3 i0 _ 1 8 Try.underlying25 hi0 hz0 hz1 hz2 rfl (by omega) rv (g1 y1).length ((g1 y1).map (Value.int .i64)) (by rfl) ((HROW.out.alloc _).drew) ⟨W2.heap.size, 0, none⟩ 1 1 [.int .i64 (2 * (k : Int) + 1)] (by rfl) (by rfl) (World.news_of_block (cs := #[.int .i64 (2 * (k : Int) + 1)]) (t := 3) (fr := (0, 0)) (heap_alloc_new W2 _)) (by simp [Value.oneCell']) (by omega) HLN.out.1 HLN.out.2 (by have := HXW.out; simp; omega) (W2.heap.size + 1) (by simp) ?_; intro gg cap w1 hown1 hgrow hat hlt1; have hxx := blk_grown hgrow (show ((W2.alloc (.cells #[.int .i64 (2 * (k : Int) + 1)] 3)).drew).heap[xb]? = some (.cells (restCells N s t (some ad) l.length c (much0 l (k + 1)) outv) 57 (0, 0)) from blk_alloc H.out.1.xbb _) ng1; have rc2 := (blk_cell hxx (1028 + y1.toNat)).trans ((blk_cell H.out.1.xbb (1028 + y1.toNat)).symm.trans rc1); have rf2 := blk_free hxx (1028 + y1.toNat); clear hxx; have hpp := blk_grown hgrow (show ((W2.alloc (.cells #[.int .i64 (2 * (k : Int) + 1)] 3)).drew).heap[pxb]? = some (.cells #[.pointer (some ⟨xb, 0, none⟩)] 53 (0, 0)) from blk_alloc H.out.1.pxbb _) ng2; have px2 := blk_cell hpp 0; have haa := blk_grown hgrow (show ((W2.alloc (.cells #[.int .i64 (2 * (k : Int) + 1)] 3)).drew).heap[ab]? = some (.cells #[.int .i64 y0, .int .i64 y1, .int .i64 y2] 43 (0, 0)) from blk_alloc H.out.2 _) ng3; have aa2 := blk_cell haa 1; clear hpp haa; simp only [List.getElem?_toArray, List.getElem?_cons_succ, List.getElem?_cons_zero] at px2 aa2)))
        all_goals (
          go_wp2
          go_roundw
          case rel =>
            have hf := (MB.app (H.out.1.alloc _).drew i10 y164 HRV.out hown1 hgrow (by rcases hat with e | e; exact .inl e; exact .inr (by simp [e])) (blk_alloc H.out.2 (.cells #[.int .i64 (2 * (k : Int) + 1)] 3))).1
            refine ⟨k + 1, by omega, by go_num, ⟨⟨_, hf.congr (fun v hv => ?_)⟩⟩⟩
            have h1 : outK l (k + 1) v = outK l k v ++ ((if (rd_T43 l k).f0 = v then [2 * (k : Int)] else []) ++ (if (rd_T43 l k).f1 = v then [2 * (k : Int) + 1] else [])) := rfl
            rw [h1, HX.out]
            simp only
            rw [hG.out]
            simp only
            by_cases e1 : (v : Int) = y1
            · rw [e1, if_pos rfl, if_neg (Ne.symm hne), if_neg hne, if_pos rfl]; rfl
            · rw [if_neg e1, if_neg (Ne.symm e1)]
              by_cases e0 : (v : Int) = y0
              · rw [e0, if_pos rfl, if_pos rfl]; simp
              · rw [if_neg e0, if_neg (Ne.symm e0)]; simp
          case measure => simp [intOf]; omega))
    · have hke : k = l.length := by omega
      subst hke
      have hlen64 := hmb.rows.len
      have OK := Aside0.mk (envOf_ok (A := A) (c := c) (xb := xb) HNet.out hlen64)
      have hx : wr.heap[(envOf N s t A c l outv xb).xb]? = some ((envOf N s t A c l outv xb).block (much0 l l.length)) := hmb.xbb
      have HX := Aside0.mk hx
      have hd : ∀ w', Ch [] wr w' → (envOf N s t A c l outv xb).Data w' := fun w' hc => hmb.data HNet.out HR.out hc (by simp)
      have HD := Aside0.mk hd
      have HMI := Aside0.mk (MI.start HNet.out)
      have hml := much0_length l l.length
      have px := blk_cell hmb.pxbb 0
      simp only [List.getElem?_toArray, List.getElem?_cons_zero] at px
      have HMB := Aside0.mk hmb
      clear hx hd hmb
      generalize much0 l l.length = much at HX HMI HMB hml
      obtain ⟨lev, hlev⟩ : ∃ lev, lev = levs l much s := ⟨_, rfl⟩
      have HLEV := Aside0.mk hlev
      have hll : lev.length = 64 := by rw [hlev]; exact (levs_net HNet.out much).len
      clear hlev
      have hi49 : (Try.prog.info? 49).map (·.size) = some (intsOf lev).size := by
        rw [show (intsOf lev).size = 64 by simp [intsOf, hll]]
        kernel_rfl
      have h1c : (intsOf lev).all (·.oneCell') = true := intsOf_one lev
      have hs64 : (intsOf lev).size = 64 := by simp [intsOf, hll]
      have H49 := Aside0.mk (And.intro hi49 (And.intro h1c hs64))
      clear hi49 h1c hs64
      go_wp2_with (first | (go_at_call 28; refine (levels_calls (envOf N s t A c l outv xb) OK.out much hml _ HX.out HD.out).mono ?_; rintro e w2 ⟨he, hcw⟩; have he' : e = .returned (.agg (intsOf lev)) := (by rw [HLEV.out]; exact he); subst he'; clear he; have HCW := Aside0.mk hcw; clear hcw) | (refine wpList_store_row rfl 49 (.tmp 9) (.tmp 75) rfl w2.heap.size _ rfl rfl 49 _ (blk_new _ _) H49.out.1 (by rw [H49.out.2.2]; rfl) H49.out.2.1 ?_))
      have hm2 : MB N s t A c l w w2 nb xb pxb much (outK l l.length) outv := HMB.out.move (HMB.out.ch.trans HCW.out (by simp)) (fun _ _ _ _ hk => HCW.out.at hk (by simp))
      have hlbw : w.heap.size ≤ w2.heap.size := hm2.ch.size
      refine wp_abs (fun W3 => MB N s t A c l w W3 nb xb pxb much (outK l l.length) outv ∧ W3.heap[w2.heap.size]? = some (.cells (intsOf lev) 49 (0, 0))) ((hm2.alloc _).setLev (blk_new _ _) hlbw (intsOf lev)) ?_
      obtain ⟨lb, hlb⟩ : ∃ lb, lb = w2.heap.size := ⟨_, rfl⟩
      rw [← hlb] at hlbw ⊢
      have HLBW := Aside0.mk hlbw
      rw [HLEV.out]
      clear hm2 hlb hlbw px HX HD HMB H49 hml hll HLEV HCW hlt hk
      intro W3 hW3
      have HW3 := Aside0.mk hW3
      clear hW3
      obtain ⟨s0, s1⟩ := inV_true.1 HNet.out.arg.2.2.1
      obtain ⟨t0, t1⟩ := inV_true.1 HNet.out.arg.2.2.2.1
      have hN64 := HNet.out.arg.2.1
      simp only [Act.put]
      go_loopg [] ((549755813888 - net l much s).toNat) (fun n wr => ∃ much : List Int, Aside0 (MI N s t l much ∧ 549755813888 - net l much s ≤ n ∧ MB N s t A c l w wr nb xb pxb much (outK l l.length) outv ∧ wr.heap[lb]? = some (.cells (intsOf (levs l much s)) 49 (0, 0))))
      case atStart => exact ⟨much, ⟨HMI.out, by omega, HW3.out⟩⟩
      case round =>
        obtain ⟨much1, hrel⟩ := hrel
        obtain ⟨hmi, hmeas, hmb, hlv⟩ := hrel.out
        have hL := levs_net HNet.out much1
        have cN := blk_cell hmb.nbb 2
        have cS := blk_cell hmb.nbb 1
        have px := blk_cell hmb.pxbb 0
        simp only [List.getElem?_toArray, List.getElem?_cons_succ, List.getElem?_cons_zero] at cN cS px
        have cL : wr.cell? ⟨lb, t.toNat, none⟩ = some (.int .i64 (gi (levs l much1 s) t)) := (blk_cell hlv _).trans (intsOf_get _ _ (by rw [hL.len]; omega))
        have HL := Aside0.mk hL
        have HMI1 := Aside0.mk (And.intro hmi hmeas)
        have HMB1 := Aside0.mk hmb
        have HLV := Aside0.mk hlv
        have hlbl := blk_lt hlv
        have hnbl := blk_lt hmb.nbb
        have hpxl := blk_lt hmb.pxbb
        clear hrel hmi hmeas hmb hlv hL HMI HW3
        by_cases hx : 0 ≤ gi (levs l much1 s) t
        · have HPH := Aside0.mk (HMI1.out.1.phase HNet.out hx)
          have HXT := Aside0.mk hx
          generalize gi (levs l much1 s) t = x at cL hx
          go_upto_region 18 with (fail)
          refine wp_abs (fun W5 => MB N s t A c l w W5 nb xb pxb much1 (outK l l.length) outv ∧ W5.heap[lb]? = some (.cells (intsOf (levs l much1 s)) 49 (0, 0)) ∧ W5.heap[wr.heap.size]? = some (.cells (boolsOf (List.replicate 64 false)) 59 (0, 0)) ∧ W5.heap[wr.heap.size + 1]? = some (.cells #[(PB.mk nb pxb lb wr.heap.size (wr.heap.size + 1)).fn] 60 (0, 0))) ?_ ?_
          · have h2 := blk_new (wr.alloc (.cells (boolsOf (List.replicate 64 false)) 59)) (.cells #[(PB.mk nb pxb lb wr.heap.size (wr.heap.size + 1)).fn] 60)
            rw [World.size_alloc] at h2
            exact ⟨(HMB1.out.alloc _).alloc _, blk_alloc (blk_alloc HLV.out _) _, blk_alloc (blk_new _ (.cells (boolsOf (List.replicate 64 false)) 59)) _, h2⟩
          obtain ⟨db, hdb⟩ : ∃ db, db = wr.heap.size := ⟨_, rfl⟩
          have HDB := Aside0.mk (show w.heap.size ≤ db by rw [hdb]; exact HMB1.out.ch.size)
          rw [← hdb]
          clear hdb cN cS px cL HLV HMB1 hlbl hnbl hpxl hx
          intro W5 ⟨hmb, hlv, hdbb, hpb⟩
          have cS := blk_cell hmb.nbb 1
          have px := blk_cell hmb.pxbb 0
          have cP := blk_cell hpb 0
          simp only [List.getElem?_toArray, List.getElem?_cons_succ, List.getElem?_cons_zero, PB.fn] at cS px cP
          have HM1 := Aside0.mk (And.intro hmb (And.intro hlv (And.intro hdbb hpb)))
          clear hmb hlv hdbb hpb
          obtain ⟨rr, hrr⟩ : ∃ rr, rr = push l (levs l much1 s) (outK l l.length) t 66 s 549755813888 ⟨much1, List.replicate 64 false⟩ := ⟨_, rfl⟩
          have HRR := Aside0.mk hrr
          have hph : phase l s t much1 = rr.2.much := by rw [hrr]; rfl
          have HPE := Aside0.mk hph
          have hmi2 := HPH.out.1
          have HMI2 := Aside0.mk hmi2
          obtain ⟨lev2, hlev2⟩ : ∃ lev2, lev2 = levs l (phase l s t much1) s := ⟨_, rfl⟩
          have HLEV2 := Aside0.mk hlev2
          have hll2 : lev2.length = 64 := by rw [hlev2]; exact (levs_net HNet.out _).len
          have H492 := Aside0.mk (show (Try.prog.info? 49).map (·.size) = some (intsOf lev2).size ∧ (intsOf lev2).all (·.oneCell') = true ∧ (intsOf lev2).size = 64 from ⟨by
            rw [show (intsOf lev2).size = 64 by simp [intsOf, hll2]]
            kernel_rfl, intsOf_one lev2, by simp [intsOf, hll2]⟩)
          clear hrr hph hmi2 hlev2 hll2
          go_wp2_with (first | (go_at_call 29; refine (push_calls (envOf N s t A c l outv xb) OK.out (levs l much1 s) ⟨HL.out.len, fun u => ⟨HL.out.top u, HL.out.low u⟩⟩ (fun v => rfl) (fun k hk => (HNet.out.arcs k hk).2.2.2.2) HNet.out.head ⟨nb, pxb, lb, db, db + 1⟩ 66 s 549755813888 ⟨much1, List.replicate 64 false⟩ W5 HMI1.out.1.inv ⟨HM1.out.1.nbb, HM1.out.1.pxbb, HM1.out.1.xbb, HM1.out.2.1, HM1.out.2.2.1, HM1.out.2.2.2⟩ (fun w' hc => HM1.out.1.data HNet.out HR.out hc (by
              intro b hb
              simp only [List.mem_cons, List.not_mem_nil, or_false] at hb
              rcases hb with rfl | rfl
              · exact ⟨HM1.out.1.hxb, _, _, _, HM1.out.1.xbb, by simp⟩
              · exact ⟨HDB.out, _, _, _, HM1.out.2.2.1, by simp⟩)) (by omega) (by omega) s0 s1 (by have := HL.out.src; omega)).mono ?_; rintro e w4 ⟨he, hcp, hpm⟩; have he2 : e = .returned (.int .i64 rr.1) := (by rw [he, HRR.out]; rfl); subst he2; clear he; have hpm' : PMem (envOf N s t A c l outv xb) (levs l much1 s) ⟨nb, pxb, lb, db, db + 1⟩ w4 rr.2 := (by rw [HRR.out]; exact hpm); have hmb4 := HM1.out.1.push hcp HDB.out HM1.out.2.2.1 hpm' (by rw [← HPE.out]; exact HMI2.out.inv.ml) rfl rfl; rw [← HPE.out] at hmb4; have px4 := blk_cell hmb4.pxbb 0; simp only [List.getElem?_toArray, List.getElem?_cons_zero] at px4; have HM2 := Aside0.mk (And.intro hmb4 hpm'.lbb); clear hmb4 hpm hpm' hcp) | (go_at_call 28; refine (levels_calls (envOf N s t A c l outv xb) OK.out (phase l s t much1) HMI2.out.inv.ml _ HM2.out.1.xbb (fun w' hc => HM2.out.1.data HNet.out HR.out hc (by simp))).mono ?_; rintro e w5 ⟨he, hcw⟩; have he' : e = .returned (.agg (intsOf lev2)) := (by rw [HLEV2.out]; exact he); subst he'; clear he; have HCW2 := Aside0.mk hcw; have HLB2 := Aside0.mk (hcw.at HM2.out.2 (by simp)); clear hcw) | (refine wpList_store_row rfl 49 (.tmp 9) (.tmp 82) rfl lb _ rfl rfl 49 _ HLB2.out H492.out.1 (by rw [H492.out.2.2]; simp [intsOf, HL.out.len]) H492.out.2.1 ?_))
          simp only [Act.put]
          have hm5 : MB N s t A c l w w5 nb xb pxb (phase l s t much1) (outK l l.length) outv := HM2.out.1.move (HM2.out.1.ch.trans HCW2.out (by simp)) (fun _ _ _ _ hk => HCW2.out.at hk (by simp))
          have hm6 := hm5.setLev HLB2.out HLBW.out (intsOf lev2)
          rw [HLEV2.out] at hm6
          have hbo := HMI2.out.bound HNet.out
          have hgt := HPH.out.2
          have hme := HMI1.out.2
          rw [HLEV2.out]
          go_roundg (gk - 1)
          case rel => exact ⟨phase l s t much1, ⟨HMI2.out, by omega, hm6⟩⟩
          case measure => omega
        · have hd0 : decide (0 ≤ gi (levs l much1 s) t) = false := by simpa using hx
          have HFIN := Aside0.mk (HMI1.out.1.final HNet.out (by omega))
          have HM := Aside0.mk (show ME N s t A c l w wr nb xb pxb lb much1 outv (levs l much1 s) from ⟨HMB1.out.ch, HMB1.out.nbb, HMB1.out.pxbb, HMB1.out.xbb, HLV.out⟩)
          have HLM := Aside0.mk (show much1.length = 1024 ∧ (levs l much1 s).length = 64 from ⟨HMI1.out.1.inv.ml, HL.out.len⟩)
          have c3 := blk_cell HM.out.nbb 3
          simp only [List.getElem?_toArray, List.getElem?_cons_succ, List.getElem?_cons_zero] at c3
          generalize levs l much1 s = lev1 at *
          clear HMI1 HMB1 HLV HL hlbl hnbl hpxl
          go_wp2
          clear c3 cN cS px cL hx hd0
          go_loopw [91, 2] (fun i v2 wr => ∃ k : Nat, k ≤ l.length ∧ i = .int .i64 k ∧ Aside0 (ME N s t A c l w wr nb xb pxb lb much1 outv lev1 ∧ Row wr w.heap.size v2 (xK much1 k))) (fun i v2 wr => l.length - (intOf i).toNat)
          case atStart => exact ⟨0, by omega, rfl, ⟨HM.out, Row.nil _ _⟩⟩
          case round =>
            obtain ⟨k, hk, rfl, hrel⟩ := hrel
            clear HM
            obtain ⟨hme, hrow⟩ := hrel.out
            clear hrel
            by_cases hlt : k < l.length
            · have px := blk_cell hme.pxbb 0
              simp only [List.getElem?_toArray, List.getElem?_cons_zero] at px
              have hmc : wr.cell? ⟨xb, 4 + (2 * k + 1), none⟩ = some (.int .i64 (gi much1 (2 * k + 1))) := (blk_cell hme.xbb _).trans (rest_much _ (by rw [HLM.out.1]; omega))
              have HME := Aside0.mk hme
              have HROW := Aside0.mk hrow
              have hlr : (xK much1 k).length ≤ 100000 := by simp [xK]; omega
              have HLR := Aside0.mk hlr
              have HY := Aside0.mk (xK_succ much1 k)
              clear hme hrow hlr
              generalize gi much1 (2 * k + 1) = y at hmc HY
              generalize xK much1 k = xs at HROW HLR HY
              go_wp2_with (at_builtin; refine pl_append_row (.tmp 94) (.tmp 103) 25 u2 xs y w.heap.size wr.heap.size wr rfl rfl Try.underlying25 info3 rfl rfl rfl HROW.out HME.out.ch.size HLR.out ?_; intro v' w1 hr hg hat; have HR1 := Aside0.mk (And.intro hr hg); clear hr hg hat)
              go_roundw
              case rel =>
                refine ⟨k + 1, by omega, by go_num, ⟨HME.out.grown (e := 3) (by intro ty h; rcases h with rfl | rfl | rfl | rfl <;> decide) HROW.out.ne HR1.out.2 (fun b hb => (HROW.out.blk b hb).1), ?_⟩⟩
                rw [HY.out]
                exact HR1.out.1
              case measure => simp [intOf]; omega
            · obtain rfl : k = l.length := by omega
              have c0 := blk_cell hme.nbb 0
              simp only [List.getElem?_toArray, List.getElem?_cons_succ, List.getElem?_cons_zero] at c0
              have HME := Aside0.mk hme
              have HROW := Aside0.mk hrow
              obtain ⟨n, hn⟩ : ∃ n : Nat, N = n := ⟨N.toNat, by omega⟩
              clear hme hrow
              subst hn
              go_wp2
              go_loopw [108, 3] (fun i v3 wr => ∃ k : Nat, k ≤ n ∧ i = .int .i64 k ∧ Aside0 (ME n s t A c l w wr nb xb pxb lb much1 outv lev1 ∧ Row wr w.heap.size u2 (xK much1 l.length) ∧ RowB wr w.heap.size v3 (sK lev1 k))) (fun i v3 wr => n - (intOf i).toNat)
              case atStart => exact ⟨0, by omega, rfl, ⟨HME.out, HROW.out, RowB.nil _ _⟩⟩
              case round =>
                obtain ⟨k, hk, rfl, hrel⟩ := hrel
                clear HME HROW c0
                obtain ⟨hme, hrow, hrowb⟩ := hrel.out
                clear hrel
                by_cases hlt : k < n
                · have hmc : wr.cell? ⟨lb, k, none⟩ = some (.int .i64 (gi lev1 k)) := (blk_cell hme.lbb _).trans (intsOf_get lev1 k (by rw [HLM.out.2]; omega))
                  have hlk := blk_lt hme.lbb
                  have HME := Aside0.mk hme
                  have HROW := Aside0.mk hrow
                  have HROWB := Aside0.mk hrowb
                  have HLR := Aside0.mk (show (sK lev1 k).length ≤ 100000 by simp [sK]; omega)
                  have HY := Aside0.mk (sK_succ lev1 k)
                  clear hme hrow hrowb
                  generalize gi lev1 k = y at hmc HY
                  generalize sK lev1 k = ss at HROWB HLR HY
                  have hfin : ∀ v' w1, RowB w1 w.heap.size v' (ss ++ [decide (0 ≤ y)]) → wr.grownBy w1 u3.ownBlock → ME n s t A c l w w1 nb xb pxb lb much1 outv lev1 ∧ Row w1 w.heap.size u2 (xK much1 l.length) ∧ RowB w1 w.heap.size v' (sK lev1 (k + 1)) := fun v' w1 hr hg =>
                    ⟨HME.out.grown (e := 4) (by intro ty h; rcases h with rfl | rfl | rfl | rfl <;> decide) HROWB.out.ne hg (fun b hb => (HROWB.out.blk b hb).1), HROW.out.grown hg (fun b hb hb' => by
                      obtain ⟨_, cs, hcs⟩ := HROW.out.blk b hb
                      exact HROWB.out.ne hcs (by simp) hb'), by rw [HY.out]; exact hr⟩
                  have HFN := Aside0.mk hfin
                  clear hfin
                  go_wp2_with (at_builtin; refine pl_append_rowB (.tmp 111) (.tmp 116) 26 u3 ss (decide (0 ≤ y)) w.heap.size wr.heap.size wr rfl rfl Try.underlying26 info4 rfl rfl rfl HROWB.out HME.out.ch.size HLR.out ?_; intro v' w1 hr hg; have HR1 := Aside0.mk (And.intro hr hg); clear hr hg)
                  go_roundw
                  case rel => exact ⟨k + 1, by omega, by go_num, ⟨HFN.out _ _ HR1.out.1 HR1.out.2⟩⟩
                  case measure => simp [intOf]; omega
                · obtain rfl : k = n := by omega
                  have HME := Aside0.mk hme
                  have HROW := Aside0.mk hrow
                  have HROWB := Aside0.mk hrowb
                  clear hme hrow hrowb
                  go_wp2
                  go_ret3
                  refine ⟨u2, u3, _, _, rfl, HME.out.ch, HFIN.out, HROW.out, ?_⟩
                  have := HROWB.out
                  unfold sideOf
                  rw [Int.toNat_natCast]
                  exact this
end Go.Proofs.Ytipfpckjgfjehaa

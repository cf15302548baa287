import Derived.Test.YtipfpckjgfjehaaF1
namespace Go.Proofs.Ytipfpckjgfjehaa
set_option linter.unusedVariables false
set_option linter.unusedSimpArgs false
open Go.RowKit PFlowMaxSpec Go.Proofs.YtipfpckjgfjehaaW.PrintWords
attribute [local go_sem] Oper.semAt_some

/-! ### Blocks of whole numbers -/

def intsOf (l : List Int) : Array Value := (l.map (Value.int .i64)).toArray
theorem intsOf_get (l : List Int) (i : Nat) (h : i < l.length) : (intsOf l)[i]? = some (.int .i64 (l.getD i 0)) := by
  simp [intsOf, List.getElem?_eq_getElem h, List.getD_eq_getElem?_getD]
theorem intsOf_set (l : List Int) (i : Nat) (v : Int) : (intsOf l).setIfInBounds i (.int .i64 v) = intsOf (l.set i v) := by
  simp [intsOf, List.map_set]

def boolsOf (l : List Bool) : Array Value := (l.map Value.bool).toArray
theorem boolsOf_get (l : List Bool) (i : Nat) (h : i < l.length) : (boolsOf l)[i]? = some (.bool (l.getD i false)) := by
  simp [boolsOf, List.getElem?_eq_getElem h, List.getD_eq_getElem?_getD]
theorem boolsOf_set (l : List Bool) (i : Nat) (v : Bool) : (boolsOf l).setIfInBounds i (.bool v) = boolsOf (l.set i v) := by
  simp [boolsOf, List.map_set]
theorem intsOf_one (l : List Int) : (intsOf l).all (·.oneCell') = true := by
  simp [intsOf, Value.oneCell']

/-- A row of whole numbers of the call's own. -/
def Row (w : World) (B : Nat) (v : Value) (xs : List Int) : Prop := w.ownsRow B 3 1 v xs.length (xs.map (Value.int .i64))
theorem Row.val {w : World} {B : Nat} {v : Value} {xs : List Int} (h : Row w B v xs) : ∃ A c, v = .slice A xs.length c := own_slice h
theorem Row.at {w : World} {B : Nat} {v : Value} {xs : List Int} (h : Row w B v xs) (k : Nat) (hk : k < xs.length) : ∃ ad c, v = .slice (some ad) xs.length c ∧ w.cell? (ad.add k) = some (.int .i64 (xs.getD k 0)) := by
  rcases h.2 with ⟨_, h0⟩ | ⟨g, cap, cur, rfl, _⟩
  · omega
  · refine ⟨_, cap, rfl, h.cells (g := g) rfl k _ ?_⟩
    simp [List.getElem?_eq_getElem hk, List.getD_eq_getElem?_getD]
theorem Row.keep {w w' : World} {B : Nat} {v : Value} {xs : List Int} (h : Row w B v xs) (hb : ∀ b, v.ownBlock = some b → w'.heap[b]? = w.heap[b]?) : Row w' B v xs := own_move h hb
theorem Row.nil (w : World) (B : Nat) : Row w B (.slice none 0 0) [] := World.ownsRow_nil w B 3 1
theorem Row.blk {w : World} {B : Nat} {v : Value} {xs : List Int} (h : Row w B v xs) (b : Nat) (hb : v.ownBlock = some b) : B ≤ b ∧ ∃ cs, w.heap[b]? = some (.cells cs 3 (0, 0)) := ⟨(h.lt b hb).1, own_typed h b hb⟩
/-- Another type's block, or what is no cells, is not the row's. -/
theorem Row.ne {w : World} {B : Nat} {v : Value} {xs : List Int} (h : Row w B v xs) {g : Nat} {o : Obj} (hg : w.heap[g]? = some o) (ho : ∀ cs, o ≠ .cells cs 3 (0, 0)) : v.ownBlock ≠ some g := by
  intro e
  obtain ⟨_, cs, hcs⟩ := h.blk g e
  rw [hg] at hcs
  exact ho cs (Option.some.inj hcs)

/-! ### The block of a 'rest' -/

def restCells (N s t : Int) (A : Option Addr) (len c : Nat) (much : List Int) (outv : List Value) : Array Value :=
  ([Value.int .i64 N, Value.int .i64 s, Value.int .i64 t, Value.slice A len c] ++ (much.map (Value.int .i64) ++ outv)).toArray
section
variable {N s t : Int} {A : Option Addr} {len c : Nat} {much : List Int} {outv : List Value}
theorem rest_0 : (restCells N s t A len c much outv)[0]? = some (.int .i64 N) := rfl
theorem rest_1 : (restCells N s t A len c much outv)[1]? = some (.int .i64 s) := rfl
theorem rest_2 : (restCells N s t A len c much outv)[2]? = some (.int .i64 t) := rfl
theorem rest_3 : (restCells N s t A len c much outv)[3]? = some (.slice A len c) := rfl
theorem rest_much (i : Nat) (h : i < much.length) : (restCells N s t A len c much outv)[4 + i]? = some (.int .i64 (much.getD i 0)) := by
  unfold restCells
  rw [List.getElem?_toArray, List.getElem?_append_right (by simp), List.getElem?_append_left (by simp; omega)]
  simp [List.getElem?_eq_getElem h, List.getD_eq_getElem?_getD]
theorem rest_out (hm : much.length = 1024) (v : Nat) : (restCells N s t A len c much outv)[1028 + v]? = outv[v]? := by
  unfold restCells
  rw [List.getElem?_toArray, List.getElem?_append_right (by simp; omega), List.getElem?_append_right (by simp; omega)]
  congr 1
  simp
  omega
theorem rest_set_much (i : Nat) (h : i < much.length) (v : Int) : (restCells N s t A len c much outv).setIfInBounds (4 + i) (.int .i64 v) = restCells N s t A len c (much.set i v) outv := by
  unfold restCells
  rw [List.setIfInBounds_toArray, List.set_append_right _ _ (by simp), List.set_append_left _ _ (by simp; omega)]
  simp [List.map_set]
theorem rest_set_out (hm : much.length = 1024) (i : Nat) (v : Value) : (restCells N s t A len c much outv).setIfInBounds (1028 + i) v = restCells N s t A len c much (outv.set i v) := by
  unfold restCells
  rw [List.setIfInBounds_toArray, List.set_append_right _ _ (by simp; omega), List.set_append_right _ _ (by simp; omega)]
  simp [hm, show 1028 + i - 4 - 1024 = i by omega]
end

/-- What a 'rest' is about: the network, the arcs of each vertex, where it lies. -/
structure Env where
  N : Int
  s : Int
  t : Int
  A : Option Addr
  c : Nat
  l : List S43
  outv : List Value
  out : Int → List Int
  xb : Nat
def Env.block (E : Env) (much : List Int) : Obj := .cells (restCells E.N E.s E.t E.A E.l.length E.c much E.outv) 57 (0, 0)
structure Env.Ok (E : Env) : Prop where
  hN : 2 ≤ E.N ∧ E.N ≤ 64
  hs : 0 ≤ E.s ∧ E.s < E.N
  ht : 0 ≤ E.t ∧ E.t < E.N
  hl : E.l.length ≤ 512
  ho : E.outv.length = 64
  hout : ∀ v, 0 ≤ v → v < E.N → (E.out v).length ≤ 1024 ∧ ∀ i ∈ E.out v, 0 ≤ i ∧ i < 2 * E.l.length ∧ 0 ≤ toV E.l i ∧ toV E.l i < E.N
structure Env.Data (E : Env) (w : World) : Prop where
  arcs : Kd.C k43 w E.A E.l.length E.l
  rows : ∀ v, 0 ≤ v → v < E.N → ∃ Av cv, E.outv[v.toNat]? = some (.slice Av (E.out v).length cv) ∧ ∀ k, k < (E.out v).length → ∃ ad, Av = some ad ∧ w.cell? (ad.add k) = some (.int .i64 ((E.out v).getD k 0))


/-! ### append of one number, at the operation; the world is that behind the one-element slice -/
section
variable {P : Program} {ops : Array Oper} {rest : List Oper} {o : Oper} {a : Act} {Q : Exit → Act → World → Prop}
theorem row_appended {w' : World} {B : Nat} {v' : Value} {xs : List Int} {y : Int} (h : w'.ownsRow B 3 1 v' (xs.length + 1) (xs.map (Value.int .i64) ++ [.int .i64 y])) : Row w' B v' (xs ++ [y]) := by
  unfold Row
  rw [List.length_append, List.map_append]
  exact h
theorem in_append_row {F : Fence} {n : Nat} (s x : Operand) (t : TypeId) (v : Value) (xs : List Int) (y : Int) (B g : Nat) (W : World) (hgd : o.guard = none)
    (ho : o.op = .call { callee := .builtin .append, args := #[s, x], argTypes := #[t, t] })
    (ht : P.underlying t = some (.slice 3)) (hinfo : (P.info? 3).map (fun i => (i.zero, i.size, i.bytes)) = some (some (.int .i64 0), 1, 8))
    (hs : a.eval s = v) (hx : a.eval x = .slice (some ⟨g, 0, none⟩) 1 1) (hgW : W.heap.size = g) (HO : Row W B v xs) (hB : B ≤ W.heap.size) (hl : xs.length ≤ 100000)
    (h : ∀ v' w', Row w' B v' (xs ++ [y]) → W.grownBy w' v.ownBlock → (v'.ownBlock = v.ownBlock ∨ ∃ b, v'.ownBlock = some b ∧ W.heap.size ≤ b) → wpListIn F n P ops Q rest (a.put o.dst v') w') :
    wpListIn F n P ops Q (o :: rest) a (W.alloc (.cells #[.int .i64 y] 3)) := by
  subst hgW
  obtain ⟨i0, hi, hz0, hz1, hz2⟩ := info_parts hinfo
  refine wpListIn_append_own_at (W.alloc (.cells #[.int .i64 y] 3)) hgd s x t ho B 3 i0 (.int .i64 0) 1 8 ht hi hz0 hz1 hz2 rfl (by decide) v xs.length (xs.map (Value.int .i64)) hs (HO.alloc _) ⟨W.heap.size, 0, none⟩ 1 1 [.int .i64 y] hx rfl
    (cell_one_new _ _ _) (by simp [Value.oneCell']) (by simp only [maxLen]; omega) (by omega) (by simp; omega) ?_
  intro v' w' hown hg _ hat
  refine h v' w' (row_appended hown) (World.grownBy.trans (World.grownBy_alloc W _ _) hg) ?_
  rcases hat with hat | hat
  · exact .inl hat
  · exact .inr ⟨_, hat, by simp⟩
theorem pl_append_row (s x : Operand) (t : TypeId) (v : Value) (xs : List Int) (y : Int) (B g : Nat) (W : World) (hgd : o.guard = none)
    (ho : o.op = .call { callee := .builtin .append, args := #[s, x], argTypes := #[t, t] })
    (ht : P.underlying t = some (.slice 3)) (hinfo : (P.info? 3).map (fun i => (i.zero, i.size, i.bytes)) = some (some (.int .i64 0), 1, 8))
    (hs : a.eval s = v) (hx : a.eval x = .slice (some ⟨g, 0, none⟩) 1 1) (hgW : W.heap.size = g) (HO : Row W B v xs) (hB : B ≤ W.heap.size) (hl : xs.length ≤ 100000)
    (h : ∀ v' w', Row w' B v' (xs ++ [y]) → W.grownBy w' v.ownBlock → (v'.ownBlock = v.ownBlock ∨ ∃ b, v'.ownBlock = some b ∧ W.heap.size ≤ b) → wpList P ops Q rest (a.put o.dst v') w') :
    wpList P ops Q (o :: rest) a (W.alloc (.cells #[.int .i64 y] 3)) := by
  subst hgW
  obtain ⟨i0, hi, hz0, hz1, hz2⟩ := info_parts hinfo
  refine wpList_append_own_at (W.alloc (.cells #[.int .i64 y] 3)) hgd s x t ho B 3 i0 (.int .i64 0) 1 8 ht hi hz0 hz1 hz2 rfl (by decide) v xs.length (xs.map (Value.int .i64)) hs (HO.alloc _) ⟨W.heap.size, 0, none⟩ 1 1 [.int .i64 y] hx rfl
    (cell_one_new _ _ _) (by simp [Value.oneCell']) (by simp only [maxLen]; omega) (by omega) (by simp; omega) ?_
  intro v' w' hown hg _ hat
  refine h v' w' (row_appended hown) (World.grownBy.trans (World.grownBy_alloc W _ _) hg) ?_
  rcases hat with hat | hat
  · exact .inl hat
  · exact .inr ⟨_, hat, by simp⟩
end

/-- Two blocks that hold different things are two. -/
theorem blk_ne {w : World} {b b' : Nat} {o o' : Obj} (h : w.heap[b]? = some o) (h' : w.heap[b']? = some o') (hne : o ≠ o') : b ≠ b' := by
  rintro rfl
  rw [h] at h'
  exact hne (Option.some.inj h')
theorem Row.keepBl {w w' : World} {B : Nat} {v : Value} {xs : List Int} (h : Row w B v xs) (hk : KeepBl w w') : Row w' B v xs :=
  h.keep (fun b hb => by
    obtain ⟨_, cs, hcs⟩ := h.blk b hb
    rw [hcs]
    exact hk b _ hcs (fun r hr => by cases hr))
theorem Row.set {w : World} {B : Nat} {v : Value} {xs : List Int} (h : Row w B v xs) (p : Addr) (u : Value) (hp : v.ownBlock ≠ some p.block) : Row (w.setCell p u) B v xs :=
  h.keep (fun b hb => Below.heap_setCell w p u b (fun e => hp (by rw [hb, e])))
theorem Row.grown {w w' : World} {B : Nat} {v : Value} {xs : List Int} {row : Option Nat} (h : Row w B v xs) (hg : w.grownBy w' row) (hp : ∀ b, v.ownBlock = some b → row ≠ some b) : Row w' B v xs :=
  h.keep (fun b hb => hg.block b (h.lt b hb).2 (fun e => hp b hb e.symm))
/-- A block that lies on while a row (or none) is written. -/
theorem blk_grown {w w' : World} {row : Option Nat} {b : Nat} {o : Obj} (hg : w.grownBy w' row) (hb : w.heap[b]? = some o) (hr : row ≠ some b) : w'.heap[b]? = some o :=
  (hg.block b (blk_lt hb) (fun e => hr e.symm)).trans hb
theorem World.grownBy.ch {w0 w w' : World} {S : List Nat} {row : Option Nat} (h : Ch S w0 w) (hg : w.grownBy w' row) (hr : ∀ b, row = some b → b ∈ S ∨ w0.heap.size ≤ b) : Ch S w0 w' :=
  h.trans (Ch.of_grown hg row.toList (fun k hk => by simp [hk])) (fun i hi => by
    cases row with
    | none => simp at hi
    | some b => simp at hi; subst hi; exact hr i rfl)
end Go.Proofs.Ytipfpckjgfjehaa

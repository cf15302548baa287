/-
  Tools for the walks: a frame relation on worlds ('Ch'), blocks of cells, a region that draws its order inside a round of a range over a function, the range over a function itself, and the marks that it leaves. No statement is claimed here.
-/
import Derived.RangeFuncNested
import Derived.RangeFuncCalls
import Derived.RangeFuncLeaves
import Derived.RangeFuncBound
import Derived.Shelf.Abstract
import Derived.WalkKit
import Derived.OwnWalkIn
import Derived.TacticsInMore
import Derived.LoopNIn
import Derived.LoopIn
import Derived.OrdersIn
import Derived.StillTail
import Derived.Deep.QuietTactic
import Derived.BigQuiet
import Derived.Deep.LoopGhost
import Derived.Maps.OwnIn
namespace Go.Proofs.Ytipfpckjgfjehaa
set_option linter.unusedVariables false
set_option linter.unusedSimpArgs false
open Go.RowKit

/-! ### 1. Worlds that agree but for some blocks -/

/-- Every block that was there, but for those of S, is as it was; nothing else has turned. -/
structure Ch (S : List Nat) (w w' : World) : Prop where
  os : w'.os = w.os
  tape : w'.tape = w.tape
  output : w'.output = w.output
  size : w.heap.size ≤ w'.heap.size
  block : ∀ k, k < w.heap.size → k ∉ S → w'.heap[k]? = w.heap[k]?

theorem Ch.refl (S : List Nat) (w : World) : Ch S w w := ⟨rfl, rfl, rfl, Nat.le_refl _, fun _ _ _ => rfl⟩
theorem Ch.trans {S T : List Nat} {a b c : World} (h : Ch S a b) (k : Ch T b c) (hT : ∀ i, i ∈ T → i ∈ S ∨ a.heap.size ≤ i) : Ch S a c :=
  ⟨k.os.trans h.os, k.tape.trans h.tape, k.output.trans h.output, Nat.le_trans h.size k.size, fun i hi hS =>
    (k.block i (Nat.lt_of_lt_of_le hi h.size) (fun hiT => (hT i hiT).elim hS (fun h' => by omega))).trans (h.block i hi hS)⟩
theorem Ch.trans_same {S : List Nat} {a b c : World} (h : Ch S a b) (k : Ch S b c) : Ch S a c := h.trans k (fun _ h => .inl h)
theorem Ch.mono {S T : List Nat} {a b : World} (h : Ch S a b) (hT : ∀ i, i ∈ S → i ∈ T) : Ch T a b := ⟨h.os, h.tape, h.output, h.size, fun k hk hS => h.block k hk (fun h' => hS (hT k h'))⟩
theorem Ch.alloc {S : List Nat} {a w : World} (h : Ch S a w) (o : Obj) : Ch S a (w.alloc o) :=
  ⟨h.os, h.tape, h.output, by have := h.size; simp; omega, fun k hk hS => (Below.heap_alloc w o k (Nat.lt_of_lt_of_le hk h.size)).trans (h.block k hk hS)⟩
theorem Ch.setCell {S : List Nat} {a w : World} (h : Ch S a w) (p : Addr) (v : Value) (hp : p.block ∈ S ∨ a.heap.size ≤ p.block) : Ch S a (w.setCell p v) :=
  ⟨h.os, h.tape, h.output, by have := h.size; simp [World.size_setCell]; exact this, fun k hk hS => (Below.heap_setCell w p v k (fun e => by subst e; exact hp.elim hS (fun h' => by omega))).trans (h.block k hk hS)⟩
theorem Ch.drew {S : List Nat} {a w : World} (h : Ch S a w) : Ch S a w.drew := ⟨h.os, h.tape, h.output, h.size, h.block⟩
theorem Ch.drewN {S : List Nat} {a w : World} (h : Ch S a w) (n : Nat) : Ch S a (w.drewN n) := ⟨h.os, h.tape, h.output, h.size, h.block⟩
theorem Ch.putObj {S : List Nat} {a w : World} (h : Ch S a w) (r : Nat) (o : Obj) (hr : r ∈ S ∨ a.heap.size ≤ r) : Ch S a (w.putObj r o) :=
  ⟨h.os, h.tape, h.output, by have := h.size; simp; exact this, fun k hk hS => (World.putObj_heap_other (fun e => by subst e; exact hr.elim hS (fun h' => by omega))).trans (h.block k hk hS)⟩
theorem Ch.below {w w' : World} (h : Ch [] w w') : Below w.heap.size w w' := ⟨h.os, h.tape, h.output, h.size, fun k hk => h.block k hk (by simp)⟩
theorem Ch.of_below {w w' : World} (h : Below w.heap.size w w') (S : List Nat) : Ch S w w' := ⟨h.os, h.tape, h.output, h.size, fun k hk _ => h.block k hk⟩
theorem Ch.of_grown {w w' : World} {row : Option Nat} (h : w.grownBy w' row) (S : List Nat) (hr : ∀ k, row = some k → k ∈ S) : Ch S w w' :=
  ⟨h.os, h.tape, h.output, h.size, fun k hk hS => h.block k hk (fun e => hS (hr k e.symm))⟩
/-- A block that is not let go is there still. -/
theorem Ch.at {S : List Nat} {w w' : World} (h : Ch S w w') {b : Nat} {o : Obj} (hb : w.heap[b]? = some o) (hS : b ∉ S) : w'.heap[b]? = some o :=
  (h.block b (Array.getElem?_eq_some_iff.1 hb).1 hS).trans hb
theorem Ch.cell {S : List Nat} {w w' : World} (h : Ch S w w') {p : Addr} (hp : p.block < w.heap.size) (hS : p.block ∉ S) : w'.cell? p = w.cell? p := World.cell?_of_block (w := w) (h.block p.block hp hS)

/-! ### 2. A block of cells -/

theorem blk_lt {w : World} {b : Nat} {o : Obj} (h : w.heap[b]? = some o) : b < w.heap.size := (Array.getElem?_eq_some_iff.1 h).1
theorem blk_cell {w : World} {b : Nat} {cs : Array Value} {t : TypeId} {fr : Nat × Nat} (h : w.heap[b]? = some (.cells cs t fr)) (i : Nat) : w.cell? ⟨b, i, none⟩ = cs[i]? := by
  simp [World.cell?, h]
theorem blk_free {w : World} {b : Nat} {cs : Array Value} {t : TypeId} (h : w.heap[b]? = some (.cells cs t (0, 0))) (i : Nat) : w.frozen? ⟨b, i, none⟩ = false := by
  simp [World.frozen?, h]
theorem blk_set {w : World} {b : Nat} {cs : Array Value} {t : TypeId} {fr : Nat × Nat} (h : w.heap[b]? = some (.cells cs t fr)) (i : Nat) (v : Value) :
    (w.setCell ⟨b, i, none⟩ v).heap[b]? = some (.cells (cs.setIfInBounds i v) t fr) := by
  have hlt := blk_lt h
  have h' : w.heap[b] = .cells cs t fr := by simpa [Array.getElem?_eq_getElem hlt] using h
  show (w.heap.modify b _)[b]? = _
  rw [Array.getElem?_eq_getElem (by simpa using hlt), Array.getElem_modify_self, h']
  rfl
theorem blk_new (w : World) (o : Obj) : (w.alloc o).heap[w.heap.size]? = some o := World.alloc_heap_new w o
theorem blk_alloc {w : World} {b : Nat} {o : Obj} (h : w.heap[b]? = some o) (o' : Obj) : (w.alloc o').heap[b]? = some o := (Below.heap_alloc w o' b (blk_lt h)).trans h
theorem blk_other {w : World} {b : Nat} {o : Obj} (h : w.heap[b]? = some o) (p : Addr) (v : Value) (hp : b ≠ p.block) : (w.setCell p v).heap[b]? = some o := (Below.heap_setCell w p v b hp).trans h

/-! ### 3. A region that draws its order, inside a round -/

/-- The fence of a round of loop l, nothing asked. -/
abbrev RF (l : Nat) : Fence := Fence.wide.inRound l

section
variable {P : Program} {l n : Nat}

theorem calls_round {f : FuncId} {args : Array Value} {w : World} {R : Ending → World → Prop} (h : Calls P f args w R) : CallsIn (RF l) n P f args w R :=
  CallsIn.inRound l (callsIn_wide.2 h)

theorem oper_round {o : Oper} {a : Act} {w : World} {K K' : Act → World → Prop} {Q Q' : Exit → Act → World → Prop} (hnd : ∀ c, o.op ≠ .defer c)
    (hK : ∀ a w, K a w → K' a w) (hQ : ∀ e a w, Q e a w → Q' e a w) (h : o.wp P a w K Q) : o.wpIn (RF l) n P a w K' Q' := by
  refine ⟨fun f _ => trivial, ?_⟩
  unfold Oper.wp at h
  rw [show (RF l).round = some l from rfl, Oper.semAt_some l _ _ hnd]
  generalize (execOp a.eval o).run P w = r at *
  have hout : LetsOut Q → LetsOut Q' := fun ⟨a, w, h⟩ => ⟨a, w, hQ _ _ _ h⟩
  have hd : (RF l).depth.isSome = true → 1 ≤ n := fun h => by cases h
  cases r with
  | ok x w' =>
    cases x with
    | value v => exact hK _ _ h
    | skip => exact hK _ _ h
    | defer d => exact hK _ _ h
    | enter f args =>
      refine ⟨hd, calls_round (Calls.mono h ?_)⟩
      intro e w'' he
      cases e with
      | returned v => exact hK _ _ he
      | panicked c => exact hQ _ _ _ he
      | outgrown => exact hout he
    | row r args =>
      refine ⟨hd, ?_⟩
      intro c cs _
      obtain ⟨v, w'', hr, hs⟩ := h c cs
      exact ⟨v, w'', hK _ _ hr, stepsIn_wide.2 hs⟩
    | _ => exact h.elim
  | halt x w' =>
    cases x with
    | panic v => exact hQ _ _ _ h
    | _ => exact h.elim

theorem wpOp_round {ops : Array Oper} {i : Nat} {a : Act} {w : World} {K K' : Act → World → Prop} {Q Q' : Exit → Act → World → Prop} (hnd : ∀ (j : Nat) (o : Oper), ops[j]? = some o → ∀ c, o.op ≠ .defer c)
    (hno : ¬ LetsOut Q) (hK : ∀ a w, K a w → K' a w) (hQ : ∀ e a w, Q e a w → Q' e a w) (h : wpOp P ops Q i K a w) : wpOpIn (RF l) n P ops Q' i K' a w := by
  unfold wpOp at h
  unfold wpOpIn
  cases ho : ops[i]? with
  | none => simp only [ho] at h; exact hK _ _ h
  | some o =>
    simp only [ho] at h
    simp only
    split
    · rename_i hw
      simp only [hw, if_true] at h
      rcases h with h | h
      · exact oper_round (hnd i o ho) hK hQ h
      · exact absurd h.2 hno
    · rename_i hw
      simp only [hw] at h
      exact ⟨fun _ _ => trivial, hK _ _ h⟩

theorem wpAny_round {ops : Array Oper} {md : Region.Mode} {Q Q' : Exit → Act → World → Prop} (hnd : ∀ (j : Nat) (o : Oper), ops[j]? = some o → ∀ c, o.op ≠ .defer c)
    (hno : ¬ LetsOut Q) (hQ : ∀ e a w, Q e a w → Q' e a w) : ∀ (fuel : Nat) (listed : Array Bool) (a : Act) (w : World), wpAny P md ops Q fuel listed a w → wpAnyIn (RF l) n P md ops Q' fuel listed a w
  | 0, _, _, _, h => ⟨h.1, hQ _ _ _ h.2⟩
  | fuel + 1, _, _, _, h => ⟨fun h0 => hQ _ _ _ (h.1 h0), fun i hi => wpOp_round hnd hno (fun a' w' h' => wpAny_round hnd hno hQ fuel _ a' w' h') hQ (h.2 i hi)⟩

/-- No operation of the list is a defer statement. -/
def noDefer (l : List Oper) : Bool := l.all fun o => match o.op with | .defer _ => false | _ => true
theorem noDefer_spec {ops : List Oper} (h : noDefer ops = true) (j : Nat) (o : Oper) (ho : ops.toArray[j]? = some o) (c : Call) : o.op ≠ .defer c := by
  have hm : o ∈ ops := by
    rw [List.getElem?_toArray] at ho
    exact List.mem_of_getElem? ho
  have := List.all_eq_true.1 h o hm
  intro e
  rw [e] at this
  cases this

/-- A post that is asked at the normal end alone. -/
def onlyNormal (Q : Exit → Act → World → Prop) (e : Exit) (a : Act) (w : World) : Prop := e = .normal ∧ Q .normal a w
theorem onlyNormal_no (Q : Exit → Act → World → Prop) : ¬ LetsOut (onlyNormal Q) := fun ⟨_, _, h, _⟩ => by cases h
theorem onlyNormal_to {Q : Exit → Act → World → Prop} : ∀ e a w, onlyNormal Q e a w → Q e a w := by
  rintro e a w ⟨rfl, h⟩
  exact h

theorem region_round_any {id : Nat} {ops : List Oper} {Q : Exit → Act → World → Prop} {a : Act} {w : World} (hm : P.follows .mixedOrders = true) (hnd : noDefer ops = true)
    (h : wpAny P .any ops.toArray (onlyNormal Q) ops.toArray.size (Array.replicate ops.toArray.size false) a { w with drawn := w.drawn + 1 }) : (Code.region id ops.toArray true).wpIn (RF l) n P Q a w :=
  wpIn_region_any hm (wpAny_round (noDefer_spec hnd) (onlyNormal_no Q) onlyNormal_to _ _ _ _ h)

/-- Operations that only read, in whatever order: one walk in the text's order. -/
theorem wpAny_quiet {ops : List Oper} {C : World → Prop} {Q : Exit → Act → World → Prop} {a : Act} {w : World} (hB : Region.lexB .any ops.toArray = true) (hC : C w)
    (h : wpQuiet P ops.toArray C (fun a' => ∀ w', C w' → Q .normal a' w') ops a) : wpAny P .any ops.toArray Q ops.toArray.size (Array.replicate ops.toArray.size false) a w := by
  simp only [Region.lexB, Bool.and_eq_true] at hB
  refine wpAny_of_quiet (Q := fun a' => ∀ w', C w' → Q .normal a' w') (C := C) (fun a' w' hw' hq => hq w' hw') _ _ _ _ hC ?_
  have := wpAnyQ_lex (md := .any) (P := P) (C := C) hB.1 ops 0 (Array.replicate ops.toArray.size false) a (by simp) (by simpa using hB.2) h
  simpa using this

theorem region_quiet_round {id : Nat} {ops : List Oper} {Q : Exit → Act → World → Prop} {a : Act} {w : World} (hm : P.follows .mixedOrders = true) (hB : Region.lexB .any ops.toArray = true) (hnd : noDefer ops = true)
    (h : wpQuiet P ops.toArray (fun w' => ∃ k, w' = w.drewN k) (fun a' => ∀ w', (∃ k, w' = w.drewN k) → Q .normal a' w') ops a) : (Code.region id ops.toArray true).wpIn (RF l) n P Q a w :=
  region_round_any hm hnd (wpAny_quiet (C := fun w' => ∃ k, w' = w.drewN k) hB ⟨1, rfl⟩ (by
    have hmono : ∀ (ps : List Oper) (a : Act), wpQuiet P ops.toArray (fun w' => ∃ k, w' = w.drewN k) (fun a' => ∀ w', (∃ k, w' = w.drewN k) → Q .normal a' w') ps a → wpQuiet P ops.toArray (fun w' => ∃ k, w' = w.drewN k) (fun a' => ∀ w', (∃ k, w' = w.drewN k) → onlyNormal Q .normal a' w') ps a := by
      intro ps
      induction ps with
      | nil => exact fun a h w' hw' => ⟨rfl, h w' hw'⟩
      | cons o rest ih =>
        intro a h
        simp only [wpQuiet] at h ⊢
        split
        · rename_i hw; simp only [hw, if_true] at h; exact Oper.quiet_mono (fun a' => ih a') h
        · rename_i hw; simp only [hw] at h; exact ih _ h
    exact hmono ops a h))

/-- Operations that only read, then a tail whose order is forced. -/
theorem region_tail_round {id : Nat} {ops : List Oper} {Q : Exit → Act → World → Prop} {a : Act} {w : World} (k : Nat) (hm : P.follows .mixedOrders = true) (hB : Region.lexTailB .any ops.toArray k = true) (hnd : noDefer ops = true)
    (h : wpStill P ops.toArray { w with drawn := w.drawn + 1 } (fun a' => wpList P ops.toArray (onlyNormal Q) (ops.drop k) a' { w with drawn := w.drawn + 1 }) (ops.take k) a) : (Code.region id ops.toArray true).wpIn (RF l) n P Q a w := by
  refine region_round_any hm hnd ?_
  simp only [Region.lexTailB, Bool.and_eq_true, decide_eq_true_eq] at hB
  obtain ⟨⟨⟨⟨h1, h2⟩, h3⟩, h4⟩, h5⟩ := hB
  have hk : k < ops.length := by simpa using h2
  have e1 : (ops.take k).length = k := by simp; omega
  have e2 : (ops.drop k).length = ops.toArray.size - k := by simp
  have i0 : HeadInv .any ops.toArray k (Array.replicate ops.toArray.size false) :=
    { size := by simp
      closed := fun j oj _ hl => by rw [getD_replicate_false] at hl; cases hl
      tail := fun t _ ht => getD_in (by simpa using ht) (getD_replicate_false _ _) }
  have H := wpAnyL_lex (P := P) (md := .any) (w := { w with drawn := w.drawn + 1 }) (g := ops.toArray.size - k) h1 h3 h4 h2 (ops.take k) 0 (Array.replicate ops.toArray.size false) a
    (fun j hj => by rw [e1] at hj; simp [hj]) (by simpa using e1) i0 (by rw [e1]; exact h5) h
  have G := wpAny_of_head (Q' := onlyNormal Q) (g := ops.toArray.size - k) (fun listed a' hL => by
    have := wpAny_of_seq (md := .any) (Q' := onlyNormal Q) (ops.drop k) k listed a' { w with drawn := w.drawn + 1 } (fun j => by simp [List.getElem?_drop]) (by rw [e2]; exact hL.1) hL.2
    rwa [e2] at this) _ _ _ H
  rw [e1, show k + (ops.toArray.size - k) = ops.toArray.size by omega] at G
  exact G
end

/-- In a class of one world quiet operations are still ones. -/
theorem wpStill_of_quiet {P : Program} {ops : Array Oper} {W : World} {Q : Act → Prop} : ∀ (ps : List Oper) (a : Act), wpQuiet P ops (fun w' => w' = W) Q ps a → wpStill P ops W Q ps a
  | [], _, h => h
  | o :: ps, a, h => by
    simp only [wpQuiet] at h
    simp only [wpStill]
    split
    · rename_i hw
      simp only [hw, if_true] at h
      obtain ⟨v, h1, h2⟩ := h
      have h3 := h1 W rfl
      unfold Oper.quietAt at h3
      unfold Oper.still
      generalize (execOp a.eval o).run P W = r at h3
      cases r with
      | halt x w' => exact h3.elim
      | ok x w' =>
        cases x with
        | value u => obtain ⟨rfl, rfl⟩ := h3; exact ⟨rfl, wpStill_of_quiet ps _ h2⟩
        | skip => obtain ⟨rfl, rfl⟩ := h3; exact ⟨rfl, wpStill_of_quiet ps _ h2⟩
        | enter f args => obtain ⟨rfl, hc⟩ := h3; exact ⟨rfl, v, hc, wpStill_of_quiet ps _ h2⟩
        | _ => exact h3.elim
    · rename_i hw
      simp only [hw] at h
      exact wpStill_of_quiet ps _ h

/-- The same by the cheap step. -/
theorem region_tail_round_q {P : Program} {l n id : Nat} {ops : List Oper} {Q : Exit → Act → World → Prop} {a : Act} {w : World} (k : Nat) (hm : P.follows .mixedOrders = true) (hB : Region.lexTailB .any ops.toArray k = true) (hnd : noDefer ops = true)
    (h : wpQuiet P ops.toArray (fun w' => w' = w.drew) (fun a' => wpList P ops.toArray (onlyNormal Q) (ops.drop k) a' w.drew) (ops.take k) a) : (Code.region id ops.toArray true).wpIn (RF l) n P Q a w :=
  region_tail_round k hm hB hnd (wpStill_of_quiet _ _ h)
theorem region_tail_plain_q {P : Program} {id : Nat} {ops : List Oper} {Q : Exit → Act → World → Prop} {a : Act} {w : World} (k : Nat) (hm : P.follows .mixedOrders = true) (hB : Region.lexTailB .any ops.toArray k = true)
    (h : wpQuiet P ops.toArray (fun w' => w' = w.drew) (fun a' => wpList P ops.toArray Q (ops.drop k) a' w.drew) (ops.take k) a) : (Code.region id ops.toArray true).wp P Q a w :=
  wp_region_still_tail k hm hB (wpStill_of_quiet _ _ h)

/-! ### 4. The range over a function -/

section
variable {P : Program} {n : Nat}

/-- A call of yield, out of the walk of the loop's body. -/
theorem yield_round {l : Nat} {r : Loop} {args : Array Value} {W : World} {R : Ending → World → Prop} (hl : W.heap[l]? = some (.loop r)) (hrdy : r.state = .ready) (hsz : args.size = r.params.size)
    (h : r.assign.wpIn (RF l) n P (Exit.then (fun a₁ w₁ => w₁.heap[l]? = some (.loop r) ∧ r.body.wpIn (RF l) n P (roundPost P l R) a₁ (w₁.putObj l (.loop { r with state := .busy }))) (fun _ _ _ => False))
      { tmps := (r.params.zip args).foldl (fun tmps (t, a) => tmps.setIfInBounds t a) r.tmps, defers := [] } W) : YieldAt Fence.wide n P l args W R := by
  refine ⟨r.fn, _, r.assign, r.body, run_yield hl hsz, roundIn_of_wpIn trivial (wpIn_mono h ?_)⟩
  intro e a w hq
  cases e with
  | normal => exact ⟨_, run_beginRound hq.1 hrdy, hq.2⟩
  | _ => exact hq

theorem round_on {l : Nat} {r : Loop} {a : Act} {w : World} {R : Ending → World → Prop} (hl : w.heap[l]? = some (.loop r))
    (h : R (.returned (.bool true)) (w.putObj l (.loop { r with state := .ready, pending := none }))) : roundPost P l R .normal a w := ⟨_, _, run_endRound none hl, h⟩
theorem round_ret {l : Nat} {r : Loop} {a : Act} {w : World} {R : Ending → World → Prop} (hl : w.heap[l]? = some (.loop r))
    (h : R (.returned (.bool false)) (w.putObj l (.loop { r with state := .done, pending := some .ret }))) : roundPost P l R .ret a w := ⟨_, _, run_endRound (some .ret) hl, h⟩
theorem round_exit {l id : Nat} {r : Loop} {a : Act} {w : World} {R : Ending → World → Prop} (hl : w.heap[l]? = some (.loop r))
    (h : R (.returned (.bool false)) (w.putObj l (.loop { r with state := .done, pending := some (.exit id) }))) : roundPost P l R (.exit id) a w := ⟨_, _, run_endRound (some (.exit id)) hl, h⟩

/-- The mark of a loop's block for deferred calls. -/
def markOf (D : Nat) : Deferred := { target := .collected D, args := #[] }

/-- What stands behind the loop: on, or the jump that a round has left pending. -/
def jumpPost (P : Program) (Q : Exit → Act → World → Prop) (a : Act) (w : World) : Option Code → Prop
  | none => Q .normal a w
  | some c => c.wp P Q a w

theorem range_end {l : Nat} {r : Loop} {v : Value} {Q : Exit → Act → World → Prop} {a' : Act} {W' : World} (hl : W'.heap[l]? = some (.loop r)) (hb : r.state ≠ .busy)
    (hq : jumpPost P Q a' (W'.putObj l (.loop { r with state := .exhausted })) r.pending) : rangePost Fence.wide n P l Q a' (.returned v) W' := by
  refine ⟨r.pending, W'.putObj l (.loop { r with state := .exhausted }), run_endLoop hl hb, ?_⟩
  cases hp : r.pending with
  | none => rw [hp] at hq; exact hq
  | some c => rw [hp] at hq; exact wpIn_wide.2 hq

/-- The statement: the record is laid, the function is called, the pending jump is carried out. -/
theorem range_func {g : Operand} {ps : Array Tmp} {assign body : Code} {Q : Exit → Act → World → Prop} {a : Act} {w : World} {gf : Nat} {lb : Array Value}
    (hg : a.eval g = .func (.func gf) #[] lb) (eg : ∀ args w, (callFunc gf args).run P w = .ok (.enter gf args) w)
    (h : ∀ fn, Calls P gf (#[.func (.yield (w.heap.size + 1)) #[] #[]] ++ lb)
      ((w.alloc (.deferred (some []))).alloc (.loop { state := .ready, pending := none, fn, tmps := a.tmps, params := ps, assign, body, defers := w.heap.size })) fun e W' =>
      (∃ v, e = .returned v) ∧ ∃ r, W'.heap[w.heap.size + 1]? = some (.loop r) ∧ r.state ≠ .busy ∧
        jumpPost P Q { a with defers := markOf w.heap.size :: a.defers } (W'.putObj (w.heap.size + 1) (.loop { r with state := .exhausted })) r.pending) :
    (Code.rangeFunc g ps assign body).wp P Q a w := by
  refine (wpIn_wide (n := 0)).1 (wpIn_rangeFunc ?_)
  intro fn _
  have hc := h fn
  have he : (Instr.enterLoop fn a.tmps ps assign body Fence.wide.round).run P w = .ok (w.heap.size + 1, [markOf w.heap.size])
      ((w.alloc (.deferred (some []))).alloc (.loop { state := .ready, pending := none, fn, tmps := a.tmps, params := ps, assign, body, defers := w.heap.size })) := run_enterLoop_outer (P := P) (w := w) fn a.tmps ps assign body
  generalize (w.alloc (.deferred (some []))).alloc (.loop { state := .ready, pending := none, fn, tmps := a.tmps, params := ps, assign, body, defers := w.heap.size }) = w1 at hc he
  have hr : (resolve a.eval (rangeCall g (w.heap.size + 1)) 0).run P w1 = .ok { target := .fn (.func gf) lb, args := #[.func (.yield (w.heap.size + 1)) #[] #[]] } w1 := by
    simp only [resolve, hg]
    simp [go_sem]
  have hi : (invoke (.fn (.func gf) lb) #[.func (.yield (w.heap.size + 1)) #[] #[]]).run P w1 = .ok (.enter gf (#[.func (.yield (w.heap.size + 1)) #[] #[]] ++ lb)) w1 := by
    simp [invoke, go_sem, eg]
  have hq : CallsIn Fence.wide (0 - 1) P gf (#[.func (.yield (w.heap.size + 1)) #[] #[]] ++ lb) w1 (rangePost Fence.wide 0 P (w.heap.size + 1) Q { a with defers := [markOf w.heap.size] ++ a.defers }) := by
    refine callsIn_wide.2 (hc.mono ?_)
    rintro e W' ⟨⟨v, rfl⟩, r, hl, hb, hq⟩
    exact range_end hl hb hq
  exact ⟨_, _, _, _, _, _, _, _, he, hr, fun _ _ => trivial, hi, (fun hx => by simp [Fence.wide] at hx), hq⟩

/-- What a loop's record holds but for its state. -/
structure RecOk (r : Loop) (tm : Array Value) (ps : Array Tmp) (asg bo : Code) : Prop where
  tmps : r.tmps = tm
  params : r.params = ps
  assign : r.assign = asg
  body : r.body = bo

/-- The same with the record, and its code, behind names. -/
theorem range_func2 {g : Operand} {ps : Array Tmp} {assign body : Code} {Q : Exit → Act → World → Prop} {a : Act} {w : World} {gf : Nat} {lb : Array Value}
    (hg : a.eval g = .func (.func gf) #[] lb) (eg : ∀ args w, (callFunc gf args).run P w = .ok (.enter gf args) w)
    (h : ∀ (asg bo : Code) (tm : Array Value), asg = assign → bo = body → tm = a.tmps → ∀ rec : Loop, RecOk rec tm ps asg bo → rec.state = .ready → rec.pending = none →
      Calls P gf (#[.func (.yield (w.heap.size + 1)) #[] #[]] ++ lb) ((w.alloc (.deferred (some []))).alloc (.loop rec)) fun e W' =>
      (∃ v, e = .returned v) ∧ ∃ r, W'.heap[w.heap.size + 1]? = some (.loop r) ∧ r.state ≠ .busy ∧
        jumpPost P Q { a with defers := markOf w.heap.size :: a.defers } (W'.putObj (w.heap.size + 1) (.loop { r with state := .exhausted })) r.pending) :
    (Code.rangeFunc g ps assign body).wp P Q a w :=
  range_func hg eg fun fn => h _ _ _ rfl rfl rfl _ ⟨rfl, rfl, rfl, rfl⟩ rfl rfl

theorem zip_one (t : Tmp) (x : Value) (tm : Array Value) : ((#[t] : Array Tmp).zip #[x]).foldl (fun tmps (t, a) => tmps.setIfInBounds t a) tm = tm.setIfInBounds t x := by simp

/-- A call of yield, likewise. -/
theorem yield_round2 {l : Nat} {r : Loop} {tm : Array Value} {ps : Array Tmp} {asg bo : Code} {args : Array Value} {W : World} {R : Ending → World → Prop} (hl : W.heap[l]? = some (.loop r)) (hr : RecOk r tm ps asg bo) (hrdy : r.state = .ready) (hsz : args.size = ps.size)
    (h : asg.wpIn (RF l) n P (Exit.then (fun a₁ w₁ => w₁.heap[l]? = some (.loop r) ∧ ∀ rb, RecOk rb tm ps asg bo → bo.wpIn (RF l) n P (roundPost P l R) a₁ (w₁.putObj l (.loop rb))) (fun _ _ _ => False))
      { tmps := (ps.zip args).foldl (fun tmps (t, a) => tmps.setIfInBounds t a) tm, defers := [] } W) : YieldAt Fence.wide n P l args W R := by
  obtain ⟨h1, h2, h3, h4⟩ := hr
  subst h1 h2 h3 h4
  refine yield_round hl hrdy hsz (wpIn_mono h ?_)
  intro e a w hq
  cases e with
  | normal => exact ⟨hq.1, hq.2 _ ⟨rfl, rfl, rfl, rfl⟩⟩
  | _ => exact hq
/-- One loop variable; the code and the frame written out where they are walked alone. -/
theorem yield_one {l : Nat} {r : Loop} {tm T : Array Value} {t : Tmp} {asg bo A B : Code} {x : Value} {W : World} {R : Ending → World → Prop} (hl : W.heap[l]? = some (.loop r)) (hr : RecOk r tm #[t] asg bo) (hrdy : r.state = .ready)
    (hA : asg = A) (hB : bo = B) (hT : tm = T)
    (h : A.wpIn (RF l) n P (Exit.then (fun a₁ w₁ => w₁.heap[l]? = some (.loop r) ∧ ∀ rb, RecOk rb tm #[t] asg bo → B.wpIn (RF l) n P (roundPost P l R) a₁ (w₁.putObj l (.loop rb))) (fun _ _ _ => False))
      { tmps := T.setIfInBounds t x, defers := [] } W) : YieldAt Fence.wide n P l #[x] W R :=
  yield_round2 hl hr hrdy rfl (by rw [zip_one]; subst hA hB hT; exact h)
theorem round_on2 {l : Nat} {rb : Loop} {tm : Array Value} {ps : Array Tmp} {asg bo : Code} {a : Act} {w : World} {R : Ending → World → Prop} (hl : w.heap[l]? = some (.loop rb)) (hr : RecOk rb tm ps asg bo)
    (h : ∀ r, RecOk r tm ps asg bo → r.state = .ready → r.pending = none → R (.returned (.bool true)) (w.putObj l (.loop r))) : roundPost P l R .normal a w :=
  round_on hl (h _ ⟨hr.1, hr.2, hr.3, hr.4⟩ rfl rfl)
theorem round_ret2 {l : Nat} {rb : Loop} {a : Act} {w : World} {R : Ending → World → Prop} (hl : w.heap[l]? = some (.loop rb))
    (h : ∀ r, r.state = .done → r.pending = some .ret → R (.returned (.bool false)) (w.putObj l (.loop r))) : roundPost P l R .ret a w :=
  round_ret hl (h _ rfl rfl)
theorem round_exit2 {l id : Nat} {rb : Loop} {a : Act} {w : World} {R : Ending → World → Prop} (hl : w.heap[l]? = some (.loop rb))
    (h : ∀ r, r.state = .done → r.pending = some (.exit id) → R (.returned (.bool false)) (w.putObj l (.loop r))) : roundPost P l R (.exit id) a w :=
  round_exit hl (h _ rfl rfl)

theorem calls_of_wp_marks {f : FuncId} {fn : Func} {c : Code} {args : Array Value} {w : World} {R : Ending → World → Prop} (hf : P.funcs[f]? = some fn) (hb : fn.body = some c)
    (h : c.wp P (bodyPostM Fence.wide 0 P fn R) { tmps := args ++ Array.replicate (fn.ntmps - args.size) undef, defers := [] } w) : Calls P f args w R :=
  callsIn_wide.1 (callsIn_of_wp_marks hf hb trivial (wpIn_wide.2 h) rfl)

/-- At the return the marks are taken, one after the other. -/
theorem leaves_marks {fn : Func} {tmps : Array Value} {R : Ending → World → Prop} : ∀ (Ds : List Nat) (w : World), Ds.Nodup → (∀ D, D ∈ Ds → w.heap[D]? = some (.deferred (some []))) →
    (∀ w', Ch Ds w w' → ∃ v, (results fn tmps).run P w' = .ok v w' ∧ R (.returned v) w') → LeavesInM Fence.wide 0 P fn tmps R (Ds.map markOf) .returning w
  | [], w, _, _, h => by
    obtain ⟨v, h1, h2⟩ := h w (Ch.refl _ _)
    exact ⟨v, h1, h2⟩
  | D :: Ds, w, hnd, hD, h => by
    have hd := hD D List.mem_cons_self
    obtain ⟨hne, hnd'⟩ := List.nodup_cons.1 hnd
    refine ⟨by simp, .inl ⟨D, _, rfl, run_takeDeferred hd, leaves_marks Ds _ hnd' (fun E hE => ?_) (fun w' hw' => h w' ?_)⟩⟩
    · exact (World.putObj_heap_other (fun e => hne (by rw [← e]; exact hE))).trans (hD E (List.mem_cons_of_mem _ hE))
    · exact ((Ch.refl (D :: Ds) w).putObj D _ (.inl List.mem_cons_self)).trans hw' (fun i hi => .inl (List.mem_cons_of_mem _ hi))
end

/-- Whatever is no loop's record is as it was. -/
def KeepBl (w w' : World) : Prop := ∀ (b : Nat) (o : Obj), w.heap[b]? = some o → (∀ r, o ≠ .loop r) → w'.heap[b]? = some o
theorem KeepBl.refl (w : World) : KeepBl w w := fun _ _ h _ => h
theorem KeepBl.alloc (w : World) (o : Obj) : KeepBl w (w.alloc o) := fun _ _ h _ => blk_alloc h o
theorem KeepBl.drewN (w : World) (n : Nat) : KeepBl w (w.drewN n) := fun _ _ h _ => h
theorem KeepBl.putObj {w : World} {l : Nat} {r : Loop} (hl : w.heap[l]? = some (.loop r)) (o : Obj) : KeepBl w (w.putObj l o) := fun b o' h hn =>
  (World.putObj_heap_other (fun e => by subst e; rw [hl] at h; exact hn r (Option.some.inj h).symm)).trans h
theorem KeepBl.trans {a b c : World} (h : KeepBl a b) (k : KeepBl b c) : KeepBl a c := fun i o hi hn => k i o (h i o hi hn) hn

/-! ### 5. Words for the walk -/

/-- A frame by its slots. -/
theorem arr_open {n : Nat} {A : Array Value} (h : A.size = n) : A = ((List.range n).map fun i => A.getD i undef).toArray := by
  apply Array.ext
  · simp [h]
  · intro i h1 h2
    simp [h1]

section
variable {P : Program}
/-- The world is forgotten but for what is said of it. -/
theorem wp_abs {c : Code} {Q : Exit → Act → World → Prop} {a : Act} {w : World} (S : World → Prop) (h : S w) (k : ∀ w', S w' → c.wp P Q a w') : c.wp P Q a w := k w h
theorem calls_abs {f : FuncId} {args : Array Value} {w : World} {R : Ending → World → Prop} (S : World → Prop) (h : S w) (k : ∀ w', S w' → Calls P f args w' R) : Calls P f args w R := k w h
theorem wpIn_abs {F : Fence} {n : Nat} {c : Code} {Q : Exit → Act → World → Prop} {a : Act} {w : World} (S : World → Prop) (h : S w) (k : ∀ w', S w' → c.wpIn F n P Q a w') : c.wpIn F n P Q a w := k w h
end
end Go.Proofs.Ytipfpckjgfjehaa

/-
  fastiref13.steps, room, send, Max, Most and fastilaw13.FlowMaxSpec: the walks (several texts in one).
-/
import Derived.Test.YtipfpckjgfjehaaF15
import Derived.Test.YtipfpckjgfjehaaP10
import Derived.Laws.OwnMore
import Derived.OwnWalk
import Derived.Test.YtipfpckjgfjehaaF19
import Derived.Test.YtipfpckjgfjehaaF13
namespace Go.Proofs.Ytipfpckjgfjehaa
section
set_option linter.unusedVariables false
set_option linter.unusedSimpArgs false
open Go.RowKit PFlowMaxSpec Go.Proofs.YtipfpckjgfjehaaW.PrintWords
attribute [local go_sem] Oper.semAt_some

theorem own_whole {w : World} {B g n : Nat} {e : TypeId} {xs : List Value} (h : w.ownsRow B e 1 (.slice (some ⟨g, 0, none⟩) n n) n xs) : w.heap[g]? = some (.cells xs.toArray e (0, 0)) := by
  rcases h.2 with ⟨h', _⟩ | ⟨g', cap, cur, h', _, hg, _, _, hs, ht⟩
  · simp at h'
  · simp only [Value.slice.injEq, Option.some.injEq, Addr.mk.injEq, and_true, true_and] at h'
    obtain ⟨rfl, rfl⟩ := h'
    rw [List.take_of_length_le (by rw [Array.length_toList]; omega)] at ht
    rw [hg, ← ht]

/-! ### The rounds, plainly -/
def DoneK (l : List S43) (x : List Int) (side : List Bool) (q : List Int) (k i : Nat) : Prop :=
  (∀ j : Nat, j < k → ∀ m : Nat, m < l.length → closedAt l x side (gi q j) m) ∧ ∀ m : Nat, m < i → closedAt l x side (gi q k) m
theorem closedAt.mono {l : List S43} {x : List Int} {side side' : List Bool} {v : Int} {k : Nat} (h : closedAt l x side v k) (hm : ∀ u, gb side u = true → gb side' u = true) : closedAt l x side' v k :=
  ⟨fun a b => hm _ (h.1 a b), fun a b => hm _ (h.2 a b)⟩
theorem gi_app_left {q : List Int} {j : Nat} (hj : j < q.length) (w : Int) : gi (q ++ [w]) j = gi q j := by
  unfold gi
  rw [Int.toNat_natCast, List.getD_eq_getElem?_getD, List.getD_eq_getElem?_getD, List.getElem?_append_left hj]
theorem DoneK.add {l : List S43} {x : List Int} {side : List Bool} {q : List Int} {k i : Nat} (h : DoneK l x side q k i) (hk : k < q.length) (w : Int) : DoneK l x (side.set w.toNat true) (q ++ [w]) k i :=
  ⟨fun j hj m hm => by rw [gi_app_left (by omega)]; exact (h.1 j hj m hm).mono (fun u hu => gb_set_true hu), fun m hm => by rw [gi_app_left hk]; exact (h.2 m hm).mono (fun u hu => gb_set_true hu)⟩
theorem DoneK.step {l : List S43} {x : List Int} {side : List Bool} {q : List Int} {k i : Nat} (h : DoneK l x side q k i) (hc : closedAt l x side (gi q k) i) : DoneK l x side q k (i + 1) :=
  ⟨h.1, fun m hm => by
    by_cases e : m = i
    · subst e; exact hc
    · exact h.2 m (by omega)⟩
theorem DoneK.turn {l : List S43} {x : List Int} {side : List Bool} {q : List Int} {k : Nat} (h : DoneK l x side q k l.length) : DoneK l x side q (k + 1) 0 :=
  ⟨fun j hj m hm => by
    by_cases e : j = k
    · subst e; exact h.2 m hm
    · exact h.1 j (by omega) m hm, fun m hm => by omega⟩
theorem gi_mem {q : List Int} {k : Nat} (h : k < q.length) : gi q k ∈ q := by
  unfold gi
  rw [Int.toNat_natCast, List.getD_eq_getElem?_getD, List.getElem?_eq_getElem h]
  exact List.getElem_mem h
theorem mem_gi {q : List Int} {v : Int} (h : v ∈ q) : ∃ k : Nat, k < q.length ∧ gi q k = v := by
  obtain ⟨k, hk, e⟩ := List.getElem_of_mem h
  refine ⟨k, hk, ?_⟩
  unfold gi
  rw [Int.toNat_natCast, List.getD_eq_getElem?_getD, List.getElem?_eq_getElem hk]
  exact e
theorem DoneK.all {N s : Int} {l : List S43} {x by_ : List Int} {side : List Bool} {q : List Int} (h : DoneK l x side q q.length 0) (hg : Grow N s l x by_ side q) : Closed N l x side := by
  intro v v0 v1 hv k hk
  obtain ⟨j, hj, rfl⟩ := mem_gi ((hg.mem v v0 v1).1 hv)
  exact h.1 j hj k hk

/-! ### The memory -/
structure SM (n : Nat) (s t : Int) (A : Option Addr) (c : Nat) (l : List S43) (w W : World) (nb bb sb : Nat) (v8 : Value) (by_ : List Int) (side : List Bool) (q : List Int) : Prop where
  ch : Ch [] w W
  nbb : W.heap[nb]? = some (.cells #[.int .i64 n, .int .i64 s, .int .i64 t, .slice A l.length c] 24 (0, 0))
  bbb : W.heap[bb]? = some (.cells (intsOf by_) 3 (0, 0))
  sbb : W.heap[sb]? = some (.cells (boolsOf side) 4 (0, 0))
  row : Row W w.heap.size v8 q
  rne : v8.ownBlock ≠ some bb
  hbb : w.heap.size ≤ bb
  hsb : w.heap.size ≤ sb
section
variable {n : Nat} {s t : Int} {A : Option Addr} {c : Nat} {l : List S43} {w W W' : World} {nb bb sb : Nat} {v8 : Value} {by_ : List Int} {side : List Bool} {q : List Int}
theorem SM.move (h : SM n s t A c l w W nb bb sb v8 by_ side q) (hc : Ch [] W W') : SM n s t A c l w W' nb bb sb v8 by_ side q :=
  ⟨h.ch.trans hc (by simp), hc.at h.nbb (by simp), hc.at h.bbb (by simp), hc.at h.sbb (by simp), h.row.keep (fun b hb => hc.block b (h.row.lt b hb).2 (by simp)), h.rne, h.hbb, h.hsb⟩
theorem SM.setBy (h : SM n s t A c l w W nb bb sb v8 by_ side q) (i : Nat) (e : Int) : SM n s t A c l w (W.setCell ⟨bb, i, none⟩ (.int .i64 e)) nb bb sb v8 (by_.set i e) side q := by
  refine ⟨h.ch.setCell _ _ (.inr h.hbb), blk_other h.nbb _ _ (blk_ne h.nbb h.bbb (by simp)), ?_, blk_other h.sbb _ _ (blk_ne h.sbb h.bbb (by simp)), h.row.set _ _ h.rne, h.rne, h.hbb, h.hsb⟩
  have := blk_set h.bbb i (.int .i64 e)
  rwa [intsOf_set] at this
theorem SM.setSide (h : SM n s t A c l w W nb bb sb v8 by_ side q) (i : Nat) (e : Bool) : SM n s t A c l w (W.setCell ⟨sb, i, none⟩ (.bool e)) nb bb sb v8 by_ (side.set i e) q := by
  refine ⟨h.ch.setCell _ _ (.inr h.hsb), blk_other h.nbb _ _ (blk_ne h.nbb h.sbb (by simp)), blk_other h.bbb _ _ (blk_ne h.bbb h.sbb (by simp)), ?_, h.row.set _ _ (fun e => by
    obtain ⟨_, cs, hcs⟩ := h.row.blk _ e
    rw [h.sbb] at hcs; cases hcs), h.rne, h.hbb, h.hsb⟩
  have := blk_set h.sbb i (.bool e)
  rwa [boolsOf_set] at this
theorem SM.app (h : SM n s t A c l w W nb bb sb v8 by_ side q) {v' : Value} {q' : List Int} (hr : Row W' w.heap.size v' q') (hg : W.grownBy W' v8.ownBlock) (hat : v'.ownBlock = v8.ownBlock ∨ ∃ b, v'.ownBlock = some b ∧ W.heap.size ≤ b) : SM n s t A c l w W' nb bb sb v' by_ side q' := by
  refine ⟨World.grownBy.ch h.ch hg (fun b hb => .inr (h.row.blk b hb).1), blk_grown hg h.nbb (h.row.ne h.nbb (by simp)), blk_grown hg h.bbb h.rne, blk_grown hg h.sbb (h.row.ne h.sbb (by simp)), hr, ?_, h.hbb, h.hsb⟩
  rcases hat with e | ⟨b, e, hb⟩
  · rw [e]; exact h.rne
  · rw [e]; intro e'; cases e'; have := blk_lt h.bbb; omega
theorem SM.n3 (h : SM n s t A c l w W nb bb sb v8 by_ side q) : W.cell? ⟨nb, 3, none⟩ = some (.slice A l.length c) := (blk_cell h.nbb 3).trans rfl
theorem SM.sideAt (h : SM n s t A c l w W nb bb sb v8 by_ side q) (v : Int) (v0 : 0 ≤ v) (v1 : v < side.length) : W.cell? ⟨sb, v.toNat, none⟩ = some (.bool (gb side v)) := (blk_cell h.sbb _).trans (boolsOf_get side _ (by omega))
theorem SM.byAt (h : SM n s t A c l w W nb bb sb v8 by_ side q) (v : Int) (v0 : 0 ≤ v) (v1 : v < by_.length) : W.cell? ⟨bb, v.toNat, none⟩ = some (.int .i64 (gi by_ v)) := (blk_cell h.bbb _).trans (intsOf_get by_ _ (by omega))
end

/-- What holds at the head of an inner round. -/
structure SR (n : Nat) (s t : Int) (A : Option Addr) (c : Nat) (l : List S43) (x : List Int) (w W : World) (nb bb sb : Nat) (v8 : Value) (k i : Nat) (by_ : List Int) (side : List Bool) (q : List Int) : Prop where
  mem : SM n s t A c l w W nb bb sb v8 by_ side q
  grow : Grow n s l x by_ side q
  done : DoneK l x side q k i

theorem steps_begin {n : Nat} {s t : Int} {l : List S43} {x : List Int} (hn : NetOk n s t l) : Grow n s l x (List.replicate n 0) ((List.replicate n false).set s.toNat true) [s] := by
  obtain ⟨s0, s1⟩ := inV_true.1 hn.arg.2.2.1
  refine ⟨by simp, by simp, fun v v0 v1 => ?_, fun v hv => ?_, by simp, fun v hv hvs => ?_, ?_⟩
  · by_cases e : v = s
    · subst e; rw [gb_put_same v0 (by simp; omega)]; simp
    · rw [gb_put_other (by omega)]
      have : gb (List.replicate n false) v = false := by
        unfold gb
        rw [List.getD_eq_getElem?_getD, List.getElem?_replicate]
        split <;> rfl
      rw [this]; simp [e]
  · simp at hv; subst hv; exact ⟨s0, s1⟩
  · simp at hv; exact absurd hv hvs
  · rw [List.count_set (by simp; omega)]
    simp [List.count_replicate]

set_option maxHeartbeats 8000000 in
set_option maxRecDepth 100000 in
theorem steps_calls (n : Nat) (s t : Int) (A : Option Addr) (c : Nat) (l : List S43) (A1 : Option Addr) (c1 : Nat) (x : List Int) (w : World) (hn : NetOk n s t l) (hr : k43.C w A l.length l) (hr1 : (Kd.int .i64).C w A1 x.length x) (hx : x.length = l.length) :
    Calls Try.prog 32 #[.agg #[.int .i64 n, .int .i64 s, .int .i64 t, .slice A l.length c], .slice A1 x.length c1] w fun e w' => ∃ bb sb by_ side q, e = .returned (.tuple #[.slice (some ⟨bb, 0, none⟩) n n, .slice (some ⟨sb, 0, none⟩) n n]) ∧ Ch [] w w' ∧ w'.heap[bb]? = some (.cells (intsOf by_) 3 (0, 0)) ∧ w'.heap[sb]? = some (.cells (boolsOf side) 4 (0, 0)) ∧ Grow n s l x by_ side q ∧ Closed n l x side := by
  have HN := Aside0.mk hn
  have HR := Aside0.mk hr
  have HR1 := Aside0.mk hr1
  have HX := Aside0.mk hx
  have hN64 := hn.arg.2.1
  have hl5 := hn.len
  have hn64 : n ≤ 64 := by omega
  obtain ⟨s0, s1⟩ := inV_true.1 hn.arg.2.2.1
  clear hn hr hr1 hx hN64
  obtain ⟨i0, hi0, hz0, hz1, hz2⟩ := info_parts info3
  obtain ⟨i1, hi1, hy0, hy1, hy2⟩ := info_parts info4
  have HI := Aside0.mk (And.intro hi0 (And.intro hz0 (And.intro hz1 hz2)))
  have HJ := Aside0.mk (And.intro hi1 (And.intro hy0 (And.intro hy1 hy2)))
  clear hi0 hz0 hz1 hz2 hi1 hy0 hy1 hy2
  go_enter Try.func32, Try.ntmps32
  go_upto_region 2 with (refine wpList_make_full _ rfl (.tmp 13) (.tmp 13) 25 rfl w.heap.size 3 i0 (.int .i64 0) 1 Try.underlying25 HI.out.1 HI.out.2.1 HI.out.2.2.1 .i64 .i64 n n n rfl rfl rfl rfl (by rw [HI.out.2.2.2]; omega) (by simp only [maxLen]; omega) (by simp) ?_; intro w1 hown hg; have HO1 := Aside0.mk (And.intro hown hg); clear hown hg)
  have HB1 := Aside0.mk (And.intro (World.grownBy.ch ((Ch.refl [] w).alloc _) HO1.out.2 (fun b e => by cases e)) (And.intro (blk_grown HO1.out.2 (blk_new w _) (by simp)) (own_whole HO1.out.1)))
  have hw1 := blk_lt HB1.out.2.1
  have k0 := blk_cell HB1.out.2.1 0
  have hs1 := blk_lt HB1.out.2.2
  simp only [List.getElem?_toArray, List.getElem?_cons_succ, List.getElem?_cons_zero, World.size_alloc] at k0 hs1
  clear HO1
  go_upto_region 3 with (refine wpList_make_full _ rfl (.tmp 16) (.tmp 16) 26 rfl w.heap.size 4 i1 (.bool false) 1 Try.underlying26 HJ.out.1 HJ.out.2.1 HJ.out.2.2.1 .i64 .i64 n n n rfl rfl rfl rfl (by rw [HJ.out.2.2.2]; omega) (by simp only [maxLen]; omega) (by omega) ?_; intro w2 hown hg; have HO2 := Aside0.mk (And.intro hown hg); clear hown hg)
  clear k0 hw1 hs1
  have hmade : ∀ (z : Value), (madeCells #[z] (n * 1)).toList = List.replicate n z := fun z => by rw [Nat.mul_one, toList_madeCells_one]
  refine wp_abs (fun W => (Ch [] w W ∧ w.heap.size ≤ w1.heap.size) ∧ W.heap[w.heap.size]? = some (.cells #[.int .i64 n, .int .i64 s, .int .i64 t, .slice A l.length c] 24 (0, 0)) ∧ W.heap[w.heap.size + 1]? = some (.cells (intsOf (List.replicate n 0)) 3 (0, 0)) ∧ W.heap[w1.heap.size]? = some (.cells (boolsOf (List.replicate n false)) 4 (0, 0))) ?_ ?_
  · have h1 := HB1.out.2.2
    have h2 := own_whole HO2.out.1
    rw [World.size_alloc] at h1
    rw [show (Value.int .i64 0).cells = #[Value.int .i64 0] from rfl, hmade] at h1
    rw [show (Value.bool false).cells = #[Value.bool false] from rfl, hmade] at h2
    refine ⟨⟨World.grownBy.ch HB1.out.1 HO2.out.2 (fun b e => by cases e), HB1.out.1.size⟩, blk_grown HO2.out.2 HB1.out.2.1 (by simp), ?_, ?_⟩
    · rw [blk_grown HO2.out.2 h1 (by simp)]; simp [intsOf]
    · rw [h2]; simp [boolsOf]
  obtain ⟨sb, hsb⟩ : ∃ sb, sb = w1.heap.size := ⟨_, rfl⟩
  obtain ⟨nb, hnb⟩ : ∃ nb, nb = w.heap.size := ⟨_, rfl⟩
  obtain ⟨bb, hbb⟩ : ∃ bb, bb = w.heap.size + 1 := ⟨_, rfl⟩
  rw [← hsb, ← hbb, ← hnb]
  have HBB := Aside0.mk (show w.heap.size ≤ bb by omega)
  have HSB := Aside0.mk (show w.heap.size ≤ sb by rw [hsb]; exact HB1.out.1.size)
  clear HB1 HO2 hmade hsb hnb hbb w1
  intro W ⟨hch, h1, h2, h3⟩
  have k0 := blk_cell h1 1
  have f3 := blk_free h3 s.toNat
  have k3 := (blk_cell h3 s.toNat).trans (boolsOf_get (List.replicate n false) s.toNat (by rw [List.length_replicate]; omega))
  have hl1 := blk_lt h1
  have hl3 := blk_lt h3
  have hne : nb ≠ sb := blk_ne h1 h3 (by simp)
  simp only [List.getElem?_toArray, List.getElem?_cons_succ, List.getElem?_cons_zero] at k0
  have HW := Aside0.mk (And.intro hch (And.intro h1 (And.intro h2 h3)))
  have HBG := Aside0.mk (steps_begin HN.out (x := x))
  clear hch h1 h2 h3
  go_wp2
  refine wp_abs (fun W' => SR n s t A c l x w W' nb bb sb (.slice (some ⟨W.heap.size, 0, none⟩) 1 1) 0 0 (List.replicate n 0) ((List.replicate n false).set s.toNat true) [s]) ?_ ?_
  · have hrow : Row ((W.setCell ⟨sb, s.toNat, none⟩ (.bool true)).alloc (.cells #[.int .i64 s] 3)) w.heap.size (.slice (some ⟨W.heap.size, 0, none⟩) 1 1) [s] := by
      have := World.ownsRow_lit (e := 3) (size := 1) (base := w.heap.size) (W.setCell ⟨sb, s.toNat, none⟩ (.bool true)) #[.int .i64 s] 1 (by rw [World.size_setCell]; exact HW.out.1.1.size) (by simp [maxLen]) rfl
      rw [World.size_setCell] at this
      exact this
    refine ⟨⟨((HW.out.1.1.setCell _ _ (.inr HSB.out)).alloc _), blk_alloc (blk_other HW.out.2.1 _ _ hne) _, blk_alloc (blk_other HW.out.2.2.1 _ _ (blk_ne HW.out.2.2.1 HW.out.2.2.2 (by simp))) _, ?_, hrow, ?_, HBB.out, HSB.out⟩, HBG.out, fun j hj => by omega, fun m hm => by omega⟩
    · have := blk_set HW.out.2.2.2 s.toNat (.bool true)
      rw [boolsOf_set] at this
      exact blk_alloc this _
    · have := blk_lt HW.out.2.2.1
      intro e
      simp only [Value.ownBlock, Option.some.injEq] at e
      omega
  clear HW HBG k0 k3 f3 hl1 hl3 hne
  obtain ⟨v80, hv80⟩ : ∃ v : Value, v = .slice (some ⟨W.heap.size, 0, none⟩) 1 1 := ⟨_, rfl⟩
  rw [← hv80]
  clear hv80
  intro W0 hW0
  have HW0 := Aside0.mk hW0
  clear hW0
  go_loopw [9, 8] (fun i v wr => ∃ k : Nat, i = .int .i64 k ∧ Aside0 (∃ by_ side q, k ≤ List.length q ∧ SR n s t A c l x w wr nb bb sb v k 0 by_ side q)) (fun i v wr => n - (intOf i).toNat)
  case atStart => exact ⟨0, rfl, ⟨_, _, _, Nat.zero_le _, HW0.out⟩⟩
  case round =>
    obtain ⟨k, rfl, hrel⟩ := hrel
    obtain ⟨by_, side, q, hk, hsr⟩ := hrel.out
    have hsz := hsr.grow.size
    obtain ⟨A8, c8, rfl⟩ := hsr.mem.row.val
    have HSR := Aside0.mk hsr
    clear hrel HW0 hsr
    by_cases hlt : k < q.length
    rotate_left
    · obtain rfl : k = q.length := by omega
      go_wp2
      go_ret2
      exact ⟨bb, sb, by_, side, q, rfl, HSR.out.mem.ch, HSR.out.mem.bbb, HSR.out.mem.sbb, HSR.out.grow, HSR.out.done.all HSR.out.grow⟩
    have hkn : k < n := by omega
    go_wp2
    have HQ := Aside0.mk hlt
    clear hlt hk hsz
    obtain ⟨wo, rfl⟩ : ∃ wo : World, wo = wr := ⟨_, rfl⟩
    obtain ⟨v81, hv81⟩ : ∃ v : Value, v = .slice A8 q.length c8 := ⟨_, rfl⟩
    rw [← hv81] at HSR ⊢
    clear hv81
    go_loopw [10, 8] (fun i v wr => ∃ m : Nat, m ≤ l.length ∧ i = .int .i64 m ∧ Aside0 (∃ by_ side q, k < List.length q ∧ SR n s t A c l x w wr nb bb sb v k m by_ side q)) (fun i v wr => l.length - (intOf i).toNat)
    case atStart => exact ⟨0, by omega, rfl, ⟨_, _, _, HQ.out, HSR.out⟩⟩
    case round =>
      obtain ⟨m, hm, rfl, hrel⟩ := hrel
      clear HSR HQ
      obtain ⟨by_, side, q, hkq, hsr⟩ := hrel.out
      have hsz := hsr.grow.size
      obtain ⟨A8, c8, rfl⟩ := hsr.mem.row.val
      have HSR := Aside0.mk hsr
      have n3 := hsr.mem.n3
      have hl1 := blk_lt hsr.mem.nbb
      clear hrel hsr
      by_cases hlt : m < l.length
      rotate_left
      · obtain rfl : m = l.length := by omega
        go_wp2
        go_roundw
        case rel => exact ⟨k + 1, by go_num, ⟨_, _, _, by omega, ⟨HSR.out.mem, HSR.out.grow, HSR.out.done.turn⟩⟩⟩
        case measure => simp [intOf]; omega
      obtain ⟨ad, rfl, c0, c1', c2⟩ := at_T43 (Kd.C_below HR.out HSR.out.mem.ch.below) m (by omega) (by omega)
      simp only [Int.toNat_natCast] at c0 c1' c2
      obtain ⟨ad1, rfl, x0⟩ := at_gi (Kd.C_below HR1.out HSR.out.mem.ch.below) m (by omega) (by rw [HX.out]; omega)
      have hxl : (m : Int) < (x.length : Int) := by rw [HX.out]; omega
      simp only [Int.toNat_natCast] at x0
      obtain ⟨ad8, c8', e8, q0⟩ := HSR.out.mem.row.at k hkq
      simp only [Value.slice.injEq, true_and] at e8
      obtain ⟨rfl, rfl⟩ := e8
      have eq0 : q.getD k 0 = gi q k := by unfold gi; rw [Int.toNat_natCast]
      rw [eq0] at q0
      obtain ⟨u, hu⟩ : ∃ u, gi q k = u := ⟨_, rfl⟩
      obtain ⟨xi, hxi⟩ : ∃ xi, gi x m = xi := ⟨_, rfl⟩
      obtain ⟨y, hy⟩ : ∃ y, rd_T43 l m = y := ⟨_, rfl⟩
      have hok := HN.out.arcs m hlt
      have HU := Aside0.mk hu
      have HXI := Aside0.mk hxi
      have HY := Aside0.mk hy
      rw [hu] at q0
      rw [hxi] at x0
      rw [hy] at c0 c1' c2 hok
      obtain ⟨y0, y1, y2⟩ := y
      obtain ⟨b0, b1, hne, i2, i3⟩ := hok
      simp only at c0 c1' c2 b0 b1 hne i2 i3
      obtain ⟨y00, y01⟩ := inV_true.1 b0
      obtain ⟨y10, y11⟩ := inV_true.1 b1
      have HNE := Aside0.mk hne
      clear eq0 hu hxi hy b0 b1 hne x0 q0 hxl
      go_upto_region 12 with (fail)
      refine wp_abs (fun W2 => SR n s t (some ad) c l x w W2 nb bb sb (.slice (some ad8) q.length c8) k m by_ side q ∧ W2.heap[wr.heap.size]? = some (.cells #[.int .i64 y0, .int .i64 y1, .int .i64 y2] 43 (0, 0)) ∧ w.heap.size ≤ wr.heap.size) ?_ ?_
      · exact ⟨⟨HSR.out.mem.move ((Ch.refl [] _).alloc _), HSR.out.grow, HSR.out.done⟩, blk_new _ _, HSR.out.mem.ch.size⟩
      obtain ⟨ab, hab⟩ : ∃ ab, ab = wr.heap.size := ⟨_, rfl⟩
      rw [← hab]
      clear hab c0 c1' c2 n3 hl1 HSR wr
      intro W2 h2
      have H2 := Aside0.mk h2
      clear h2
      have hqk : (k : Int) < (q.length : Int) := by omega
      have hmx : (m : Int) < (x.length : Int) := by rw [HX.out]; omega
      have key : ∀ W3, SR n s t (some ad) c l x w W3 nb bb sb (.slice (some ad8) q.length c8) k m by_ side q ∧ W3.heap[ab]? = some (.cells #[.int .i64 y0, .int .i64 y1, .int .i64 y2] 43 (0, 0)) ∧ w.heap.size ≤ ab →
          W3.cell? ⟨ab, 0, none⟩ = some (.int .i64 y0) ∧ W3.cell? ⟨ab, 1, none⟩ = some (.int .i64 y1) ∧ W3.cell? ⟨ab, 2, none⟩ = some (.int .i64 y2) ∧ W3.cell? (ad8.add k) = some (.int .i64 u) ∧ W3.cell? (ad1.add m) = some (.int .i64 xi) ∧ W3.cell? ⟨sb, y0.toNat, none⟩ = some (.bool (gb side y0)) ∧ W3.cell? ⟨sb, y1.toNat, none⟩ = some (.bool (gb side y1)) := fun W3 h => by
        obtain ⟨ad8', c8', e8, q0⟩ := h.1.mem.row.at k hkq
        simp only [Value.slice.injEq, true_and, Option.some.injEq] at e8
        obtain ⟨rfl, rfl⟩ := e8
        have eq0 : q.getD k 0 = gi q k := by unfold gi; rw [Int.toNat_natCast]
        rw [eq0, HU.out] at q0
        obtain ⟨ad1', e1, x0⟩ := at_gi (Kd.C_below HR1.out h.1.mem.ch.below) m (by omega) hmx
        cases e1
        rw [HXI.out, Int.toNat_natCast] at x0
        have hls := h.1.grow.ls
        exact ⟨blk_cell h.2.1 0, blk_cell h.2.1 1, blk_cell h.2.1 2, q0, x0, h.1.mem.sideAt y0 y00 (by omega), h.1.mem.sideAt y1 y10 (by omega)⟩
      have KEY := Aside0.mk key
      clear key
      obtain ⟨a0, a1, a2, q0, x0, sy0, sy1⟩ := KEY.out W2 H2.out
      by_cases e0 : y0 = u
      · have t1 : (y0 == u) = true := by simpa using e0
        have hneu : ¬ y1 = u := fun e => HNE.out (e0.trans e.symm)
        have t2 : (y1 == u) = false := by simpa using hneu
        have HE0 := Aside0.mk (And.intro e0 hneu)
        clear e0 hneu
        cases g1 : gb side y1 with
        | true =>
          have HG := Aside0.mk g1
          rw [g1] at sy1
          clear g1
          go_quiet (fail)
          go_upto_region 16 with (fail)
          refine wp_abs (fun W2 => SR n s t (some ad) c l x w W2 nb bb sb (.slice (some ad8) q.length c8) k m by_ side q ∧ W2.heap[ab]? = some (.cells #[.int .i64 y0, .int .i64 y1, .int .i64 y2] 43 (0, 0)) ∧ w.heap.size ≤ ab) ⟨⟨H2.out.1.mem.move ((Ch.refl [] _).drewN _), H2.out.1.grow, H2.out.1.done⟩, ((Ch.refl [] _).drewN _).at H2.out.2.1 (by simp), H2.out.2.2⟩ ?_
          clear a0 a1 a2 q0 x0 sy0 sy1 H2
          intro W3 h3
          have H2 := Aside0.mk h3
          clear h3
          obtain ⟨a0, a1, a2, q0, x0, sy0, sy1⟩ := KEY.out W3 H2.out
          rw [HG.out] at sy1
          go_quiet (fail)
          go_wp2
          go_roundw
          case rel => exact ⟨m + 1, by omega, by go_num, ⟨_, _, _, hkq, ⟨H2.out.1.mem.move ((Ch.refl [] _).drewN _), H2.out.1.grow, H2.out.1.done.step (by
            unfold closedAt
            rw [HU.out, HY.out, HXI.out]
            exact ⟨fun _ _ => HG.out, fun e => absurd e HE0.out.2⟩)⟩⟩⟩
          case measure => simp [intOf]; omega
        | false =>
          have HG := Aside0.mk g1
          rw [g1] at sy1
          clear g1
          by_cases hx : xi < y2
          rotate_left
          · have t3 : decide (xi < y2) = false := decide_eq_false hx
            have HXX := Aside0.mk hx
            clear hx
            go_quiet (fail)
            go_upto_region 16 with (fail)
            refine wp_abs (fun W2 => SR n s t (some ad) c l x w W2 nb bb sb (.slice (some ad8) q.length c8) k m by_ side q ∧ W2.heap[ab]? = some (.cells #[.int .i64 y0, .int .i64 y1, .int .i64 y2] 43 (0, 0)) ∧ w.heap.size ≤ ab) ⟨⟨H2.out.1.mem.move ((Ch.refl [] _).drewN _), H2.out.1.grow, H2.out.1.done⟩, ((Ch.refl [] _).drewN _).at H2.out.2.1 (by simp), H2.out.2.2⟩ ?_
            clear a0 a1 a2 q0 x0 sy0 sy1 H2
            intro W3 h3
            have H2 := Aside0.mk h3
            clear h3
            obtain ⟨a0, a1, a2, q0, x0, sy0, sy1⟩ := KEY.out W3 H2.out
            rw [HG.out] at sy1
            go_quiet (fail)
            go_wp2
            go_roundw
            case rel => exact ⟨m + 1, by omega, by go_num, ⟨_, _, _, hkq, ⟨H2.out.1.mem.move ((Ch.refl [] _).drewN _), H2.out.1.grow, H2.out.1.done.step (by
              unfold closedAt
              rw [HU.out, HY.out, HXI.out]
              exact ⟨fun _ h => absurd h HXX.out, fun e => absurd e HE0.out.2⟩)⟩⟩⟩
            case measure => simp [intOf]; omega
          have t3 : decide (xi < y2) = true := decide_eq_true hx
          have HXX := Aside0.mk hx
          clear hx
          go_quiet (fail)
          go_upto_region 13 with (fail)
          refine wp_abs (fun W2 => SR n s t (some ad) c l x w W2 nb bb sb (.slice (some ad8) q.length c8) k m by_ side q ∧ W2.heap[ab]? = some (.cells #[.int .i64 y0, .int .i64 y1, .int .i64 y2] 43 (0, 0)) ∧ w.heap.size ≤ ab) ⟨⟨H2.out.1.mem.move ((Ch.refl [] _).drewN _), H2.out.1.grow, H2.out.1.done⟩, ((Ch.refl [] _).drewN _).at H2.out.2.1 (by simp), H2.out.2.2⟩ ?_
          clear a0 a1 a2 q0 x0 sy0 sy1 H2
          intro W3 h3
          have H2 := Aside0.mk h3
          clear h3
          obtain ⟨a0, a1, a2, q0, x0, sy0, sy1⟩ := KEY.out W3 H2.out
          have f1 := blk_free H2.out.1.mem.sbb y1.toNat
          have f2 := blk_free H2.out.1.mem.bbb y1.toNat
          have hlb := H2.out.1.grow.lb
          have by0 := H2.out.1.mem.byAt y1 (by omega) (by omega)
          have ne1 : ab ≠ sb := blk_ne H2.out.2.1 H2.out.1.mem.sbb (by simp)
          have ne2 : ab ≠ bb := blk_ne H2.out.2.1 H2.out.1.mem.bbb (by simp)
          have ne3 : bb ≠ sb := blk_ne H2.out.1.mem.bbb H2.out.1.mem.sbb (by simp)
          have z1 := blk_lt H2.out.1.mem.sbb
          have z2 := blk_lt H2.out.1.mem.bbb
          have z3 := blk_lt H2.out.2.1
          generalize gi by_ y1 = bv at by0
          clear hlb
          go_upto_region 15 with (fail)
          refine wp_abs (fun W2 => SM n s t (some ad) c l w W2 nb bb sb (.slice (some ad8) q.length c8) (by_.set y1.toNat (m + 1)) (side.set y1.toNat true) q ∧ W2.heap[ab]? = some (.cells #[.int .i64 y0, .int .i64 y1, .int .i64 y2] 43 (0, 0))) ⟨(H2.out.1.mem.setSide y1.toNat true).setBy y1.toNat (m + 1), blk_other (blk_other H2.out.2.1 _ _ ne1) _ _ ne2⟩ ?_
          have HDO := Aside0.mk H2.out.1.done
          have HGR := Aside0.mk H2.out.1.grow
          have HAB := Aside0.mk H2.out.2.2
          clear a0 a1 a2 q0 x0 sy0 sy1 f1 f2 by0 ne1 ne2 ne3 z1 z2 z3 H2
          intro W4 h4
          have H4 := Aside0.mk h4
          clear h4
          have a1 := blk_cell H4.out.2 1
          simp only [List.getElem?_toArray, List.getElem?_cons_succ, List.getElem?_cons_zero] at a1
          have z3 := blk_lt H4.out.2
          have hqn := HGR.out.size
          have HQL := Aside0.mk (show q.length ≤ 100000 by omega)
          clear hqn
          go_upto_region 16 with (at_builtin; refine pl_append_row (.tmp 77) (.tmp 80) 25 (.slice (some ad8) q.length c8) q y1 w.heap.size W4.heap.size W4 rfl rfl Try.underlying25 info3 rfl rfl rfl H4.out.1.row H4.out.1.ch.size HQL.out ?_; intro v' w1 hr hg hat; have HAP := Aside0.mk (And.intro (H4.out.1.app hr hg hat) (blk_grown hg H4.out.2 (H4.out.1.row.ne H4.out.2 (by simp)))); obtain ⟨A9, c9, hv9⟩ := hr.val; subst hv9; clear hr hg hat)
          have hbok : BOk l x (m + 1) y1 := by
            have p1 : (0 : Int) < (m : Int) + 1 := by omega
            have p2 : (m : Int) + 1 - 1 = m := by omega
            refine ⟨?_, ?_, ?_, ?_⟩
            · unfold bIdx; rw [if_pos p1]; omega
            · unfold bIdx; rw [if_pos p1]; omega
            · unfold bHead; rw [if_pos p1, p2, HY.out]
            · unfold bRoom; rw [if_pos p1, p2, HY.out, HXI.out]; have := HXX.out; show 0 < y2 - xi; omega
          have hpr : bPred l (m + 1) ∈ q := by
            have p1 : (0 : Int) < (m : Int) + 1 := by omega
            unfold bPred
            rw [if_pos p1, show (m : Int) + 1 - 1 = m by omega, HY.out]
            show y0 ∈ q
            rw [HE0.out.1, ← HU.out]
            exact gi_mem hkq
          have hgr := HGR.out.add y10 y11 HG.out hbok hpr
          have hdo := HDO.out.add hkq y1
          have H9 := Aside0.mk (show SR n s t (some ad) c l x w w1 nb bb sb (.slice A9 (q ++ [y1]).length c9) k m (by_.set y1.toNat (m + 1)) (side.set y1.toNat true) (q ++ [y1]) from ⟨HAP.out.1, hgr, hdo⟩)
          have H9B := Aside0.mk HAP.out.2
          have hkq' : k < (q ++ [y1]).length := by simp; omega
          obtain ⟨ad9, c9', e9, q9⟩ := H9.out.mem.row.at k hkq'
          simp only [Value.slice.injEq, true_and] at e9
          obtain ⟨rfl, rfl⟩ := e9
          have eq9 : (q ++ [y1]).getD k 0 = u := by
            have := gi_app_left hkq y1
            rw [HU.out] at this
            rw [← this]; unfold gi; rw [Int.toNat_natCast]
          rw [eq9] at q9
          have a1 := blk_cell H9B.out 1
          simp only [List.getElem?_toArray, List.getElem?_cons_succ, List.getElem?_cons_zero] at a1
          have hk9 : (k : Int) < ((q ++ [y1]).length : Int) := by omega
          clear eq9 hgr hdo hpr hbok HAP z3
          simp only [List.length_append, List.length_cons, List.length_nil, Nat.zero_add] at hk9
          go_quiet (fail)
          go_wp2
          go_roundw
          case rel =>
            refine ⟨m + 1, by omega, by go_num, ⟨by_.set y1.toNat (m + 1), side.set y1.toNat true, q ++ [y1], hkq', ?_⟩⟩
            have hst := H9.out.done.step (by
              unfold closedAt
              rw [gi_app_left hkq, HU.out, HY.out, HXI.out]
              exact ⟨fun _ _ => by rw [gb_put_same y10 (by have := HGR.out.ls; omega)], fun e => absurd e HE0.out.2⟩)
            have := fun d => H9.out.mem.move ((Ch.refl [] w1).drewN d)
            simp only [List.length_append, List.length_cons, List.length_nil, Nat.zero_add] at this
            exact ⟨this _, H9.out.grow, hst⟩
          case measure => simp [intOf]; omega
      · have t1 : (y0 == u) = false := by simpa using e0
        have HE0 := Aside0.mk e0
        clear e0
        by_cases e1 : y1 = u
        rotate_left
        · have t2 : (y1 == u) = false := by simpa using e1
          have HE1 := Aside0.mk e1
          clear e1
          go_quiet (fail)
          go_upto_region 16 with (fail)
          refine wp_abs (fun W2 => SR n s t (some ad) c l x w W2 nb bb sb (.slice (some ad8) q.length c8) k m by_ side q ∧ W2.heap[ab]? = some (.cells #[.int .i64 y0, .int .i64 y1, .int .i64 y2] 43 (0, 0)) ∧ w.heap.size ≤ ab) ⟨⟨H2.out.1.mem.move ((Ch.refl [] _).drewN _), H2.out.1.grow, H2.out.1.done⟩, ((Ch.refl [] _).drewN _).at H2.out.2.1 (by simp), H2.out.2.2⟩ ?_
          clear a0 a1 a2 q0 x0 sy0 sy1 H2
          intro W3 h3
          have H2 := Aside0.mk h3
          clear h3
          obtain ⟨a0, a1, a2, q0, x0, sy0, sy1⟩ := KEY.out W3 H2.out
          go_quiet (fail)
          go_wp2
          go_roundw
          case rel => exact ⟨m + 1, by omega, by go_num, ⟨_, _, _, hkq, ⟨H2.out.1.mem.move ((Ch.refl [] _).drewN _), H2.out.1.grow, H2.out.1.done.step (by
            unfold closedAt
            rw [HU.out, HY.out, HXI.out]
            exact ⟨fun e => absurd e HE0.out, fun e => absurd e HE1.out⟩)⟩⟩⟩
          case measure => simp [intOf]; omega
        have t2 : (y1 == u) = true := by simpa using e1
        have HE1 := Aside0.mk e1
        clear e1
        go_quiet (fail)
        go_upto_region 16 with (fail)
        refine wp_abs (fun W2 => SR n s t (some ad) c l x w W2 nb bb sb (.slice (some ad8) q.length c8) k m by_ side q ∧ W2.heap[ab]? = some (.cells #[.int .i64 y0, .int .i64 y1, .int .i64 y2] 43 (0, 0)) ∧ w.heap.size ≤ ab) ⟨⟨H2.out.1.mem.move ((Ch.refl [] _).drewN _), H2.out.1.grow, H2.out.1.done⟩, ((Ch.refl [] _).drewN _).at H2.out.2.1 (by simp), H2.out.2.2⟩ ?_
        clear a0 a1 a2 q0 x0 sy0 sy1 H2
        intro W3 h3
        have H2 := Aside0.mk h3
        clear h3
        obtain ⟨a0, a1, a2, q0, x0, sy0, sy1⟩ := KEY.out W3 H2.out
        cases g1 : gb side y0 with
        | true =>
          have HG := Aside0.mk g1
          rw [g1] at sy0
          clear g1
          go_quiet (fail)
          go_wp2
          go_roundw
          case rel => exact ⟨m + 1, by omega, by go_num, ⟨_, _, _, hkq, ⟨H2.out.1.mem.move ((Ch.refl [] _).drewN _), H2.out.1.grow, H2.out.1.done.step (by
            unfold closedAt
            rw [HU.out, HY.out, HXI.out]
            exact ⟨fun e => absurd e HE0.out, fun _ _ => HG.out⟩)⟩⟩⟩
          case measure => simp [intOf]; omega
        | false =>
          have HG := Aside0.mk g1
          rw [g1] at sy0
          clear g1
          by_cases hx : 0 < xi
          rotate_left
          · have t3 : decide (0 < xi) = false := decide_eq_false hx
            have HXX := Aside0.mk hx
            clear hx
            go_quiet (fail)
            go_wp2
            go_roundw
            case rel => exact ⟨m + 1, by omega, by go_num, ⟨_, _, _, hkq, ⟨H2.out.1.mem.move ((Ch.refl [] _).drewN _), H2.out.1.grow, H2.out.1.done.step (by
              unfold closedAt
              rw [HU.out, HY.out, HXI.out]
              exact ⟨fun e => absurd e HE0.out, fun _ h => absurd h HXX.out⟩)⟩⟩⟩
            case measure => simp [intOf]; omega
          have t3 : decide (0 < xi) = true := decide_eq_true hx
          have HXX := Aside0.mk hx
          clear hx
          go_quiet (fail)
          go_upto_region 17 with (fail)
          refine wp_abs (fun W2 => SR n s t (some ad) c l x w W2 nb bb sb (.slice (some ad8) q.length c8) k m by_ side q ∧ W2.heap[ab]? = some (.cells #[.int .i64 y0, .int .i64 y1, .int .i64 y2] 43 (0, 0)) ∧ w.heap.size ≤ ab) ⟨⟨H2.out.1.mem.move ((Ch.refl [] _).drewN _), H2.out.1.grow, H2.out.1.done⟩, ((Ch.refl [] _).drewN _).at H2.out.2.1 (by simp), H2.out.2.2⟩ ?_
          clear a0 a1 a2 q0 x0 sy0 sy1 H2
          intro W3 h3
          have H2 := Aside0.mk h3
          clear h3
          obtain ⟨a0, a1, a2, q0, x0, sy0, sy1⟩ := KEY.out W3 H2.out
          have f1 := blk_free H2.out.1.mem.sbb y0.toNat
          have f2 := blk_free H2.out.1.mem.bbb y0.toNat
          have hlb := H2.out.1.grow.lb
          have by0 := H2.out.1.mem.byAt y0 (by omega) (by omega)
          have ne1 : ab ≠ sb := blk_ne H2.out.2.1 H2.out.1.mem.sbb (by simp)
          have ne2 : ab ≠ bb := blk_ne H2.out.2.1 H2.out.1.mem.bbb (by simp)
          have ne3 : bb ≠ sb := blk_ne H2.out.1.mem.bbb H2.out.1.mem.sbb (by simp)
          have z1 := blk_lt H2.out.1.mem.sbb
          have z2 := blk_lt H2.out.1.mem.bbb
          have z3 := blk_lt H2.out.2.1
          generalize gi by_ y0 = bv at by0
          clear hlb
          go_upto_region 19 with (fail)
          refine wp_abs (fun W2 => SM n s t (some ad) c l w W2 nb bb sb (.slice (some ad8) q.length c8) (by_.set y0.toNat (-m - 1)) (side.set y0.toNat true) q ∧ W2.heap[ab]? = some (.cells #[.int .i64 y0, .int .i64 y1, .int .i64 y2] 43 (0, 0))) ⟨(H2.out.1.mem.setSide y0.toNat true).setBy y0.toNat (-m - 1), blk_other (blk_other H2.out.2.1 _ _ ne1) _ _ ne2⟩ ?_
          have HDO := Aside0.mk H2.out.1.done
          have HGR := Aside0.mk H2.out.1.grow
          have HAB := Aside0.mk H2.out.2.2
          clear a0 a1 a2 q0 x0 sy0 sy1 f1 f2 by0 ne1 ne2 ne3 z1 z2 z3 H2
          intro W4 h4
          have H4 := Aside0.mk h4
          clear h4
          have a0 := blk_cell H4.out.2 0
          simp only [List.getElem?_toArray, List.getElem?_cons_succ, List.getElem?_cons_zero] at a0
          have z3 := blk_lt H4.out.2
          have hqn := HGR.out.size
          have HQL := Aside0.mk (show q.length ≤ 100000 by omega)
          clear hqn
          go_wp2_with (at_builtin; refine pl_append_row (.tmp 115) (.tmp 118) 25 (.slice (some ad8) q.length c8) q y0 w.heap.size W4.heap.size W4 rfl rfl Try.underlying25 info3 rfl rfl rfl H4.out.1.row H4.out.1.ch.size HQL.out ?_; intro v' w1 hr hg hat; have HAP := Aside0.mk (And.intro (H4.out.1.app hr hg hat) (blk_grown hg H4.out.2 (H4.out.1.row.ne H4.out.2 (by simp)))); obtain ⟨A9, c9, hv9⟩ := hr.val; subst hv9; clear hr hg hat)
          have hbok : BOk l x (-m - 1) y0 := by
            have p1 : ¬ (0 : Int) < -(m : Int) - 1 := by omega
            have p2 : -(-(m : Int) - 1) - 1 = m := by omega
            refine ⟨?_, ?_, ?_, ?_⟩
            · unfold bIdx; rw [if_neg p1]; omega
            · unfold bIdx; rw [if_neg p1]; omega
            · unfold bHead; rw [if_neg p1, p2, HY.out]
            · unfold bRoom; rw [if_neg p1, p2, HXI.out]; exact HXX.out
          have hpr : bPred l (-m - 1) ∈ q := by
            have p1 : ¬ (0 : Int) < -(m : Int) - 1 := by omega
            unfold bPred
            rw [if_neg p1, show -(-(m : Int) - 1) - 1 = m by omega, HY.out]
            show y1 ∈ q
            rw [HE1.out, ← HU.out]
            exact gi_mem hkq
          have hgr := HGR.out.add y00 y01 HG.out hbok hpr
          have hdo := HDO.out.add hkq y0
          have H9 := Aside0.mk (show SR n s t (some ad) c l x w w1 nb bb sb (.slice A9 (q ++ [y0]).length c9) k m (by_.set y0.toNat (-m - 1)) (side.set y0.toNat true) (q ++ [y0]) from ⟨HAP.out.1, hgr, hdo⟩)
          have hkq' : k < (q ++ [y0]).length := by simp; omega
          clear hgr hdo hpr hbok HAP z3
          go_roundw
          case rel =>
            refine ⟨m + 1, by omega, by go_num, ⟨by_.set y0.toNat (-m - 1), side.set y0.toNat true, q ++ [y0], hkq', ?_⟩⟩
            have hst := H9.out.done.step (by
              unfold closedAt
              rw [gi_app_left hkq, HU.out, HY.out, HXI.out]
              exact ⟨fun e => absurd e HE0.out, fun _ _ => by rw [gb_put_same y00 (by have := HGR.out.ls; omega)]⟩)
            have := H9.out.mem
            simp only [List.length_append, List.length_cons, List.length_nil, Nat.zero_add] at this
            exact ⟨this, H9.out.grow, hst⟩
          case measure => simp [intOf]; omega
end

section
set_option linter.unusedVariables false
set_option linter.unusedSimpArgs false
open Go.RowKit PFlowMaxSpec Go.Proofs.YtipfpckjgfjehaaW.PrintWords
attribute [local go_sem] Oper.semAt_some

/-- A path from the source to the sink, its vertices backwards, with room for so much on each step. -/
structure Way (s t : Int) (l : List S43) (x by_ : List Int) (d : Nat) (m : Int) : Prop where
  pos : 0 < m
  top : m ≤ 1073741824
  src : wayB l by_ t d = s
  step : ∀ j : Nat, j < d → wayB l by_ t j ≠ s ∧ m ≤ bRoom l x (gi by_ (wayB l by_ t j))

structure RoomI (n : Nat) (s t : Int) (l : List S43) (x by_ : List Int) (side : List Bool) (d : Nat) (m : Int) : Prop where
  pos : 0 < m
  top : m ≤ 1073741824
  v0 : 0 ≤ wayB l by_ t d
  v1 : wayB l by_ t d < n
  reach : gb side (wayB l by_ t d) = true
  step : ∀ j : Nat, j < d → wayB l by_ t j ≠ s ∧ m ≤ bRoom l x (gi by_ (wayB l by_ t j))
theorem RoomI.next {n : Nat} {s t : Int} {l : List S43} {x by_ : List Int} {side : List Bool} {rk : Int → Nat} {d : Nat} {m : Int} (h : RoomI n s t l x by_ side d m) (hn : NetOk n s t l) (hT : TreeB n s l x by_ side rk) (hs : wayB l by_ t d ≠ s) :
    RoomI n s t l x by_ side (d + 1) (min m (bRoom l x (gi by_ (wayB l by_ t d)))) ∧ rk (wayB l by_ t (d + 1)) < rk (wayB l by_ t d) := by
  obtain ⟨hb, hp, hr⟩ := hT.link _ h.v0 h.v1 h.reach hs
  obtain ⟨p0, p1⟩ := bPred_range hn hb
  have hroom := hb.room
  have h1 := h.pos
  have h2 := h.top
  refine ⟨⟨by omega, by omega, p0, p1, hp, fun j hj => ?_⟩, hr⟩
  by_cases e : j = d
  · subst e; exact ⟨hs, by omega⟩
  · obtain ⟨a, b⟩ := h.step j (by omega)
    exact ⟨a, by omega⟩

set_option maxHeartbeats 4000000 in
set_option maxRecDepth 100000 in
theorem room_calls (n : Nat) (s t : Int) (A : Option Addr) (c : Nat) (l : List S43) (A1 : Option Addr) (c1 : Nat) (x : List Int) (A2 : Option Addr) (c2 : Nat) (by_ : List Int) (side : List Bool) (rk : Int → Nat) (w : World) (hn : NetOk n s t l) (hr : k43.C w A l.length l) (hr1 : (Kd.int .i64).C w A1 x.length x) (hf : flowOk n s t l x)
    (hr2 : (Kd.int .i64).C w A2 by_.length by_) (hT : TreeB n s l x by_ side rk) (ht : gb side t = true) :
    Calls Try.prog 34 #[.agg #[.int .i64 n, .int .i64 s, .int .i64 t, .slice A l.length c], .slice A1 x.length c1, .slice A2 by_.length c2] w fun e w' => ∃ (d : Nat) (m : Int), e = .returned (.int .i64 m) ∧ Ch [] w w' ∧ Way s t l x by_ d m := by
  have HN := Aside0.mk hn
  have HR := Aside0.mk hr
  have HR1 := Aside0.mk hr1
  have HR2 := Aside0.mk hr2
  have HF := Aside0.mk hf
  have HT := Aside0.mk hT
  have hl5 := hn.len
  obtain ⟨t0, t1⟩ := inV_true.1 hn.arg.2.2.2.1
  have HI0 := Aside0.mk (show RoomI n s t l x by_ side 0 1073741824 from ⟨by omega, by omega, t0, t1, ht, fun j hj => by omega⟩)
  clear hn hr hr1 hr2 hf hT ht t0 t1
  go_enter Try.func34, Try.ntmps34
  go_wp2
  go_loopw [7, 8] (fun mo v wr => ∃ (d : Nat) (m v' : Int), mo = .int .i64 m ∧ v = .int .i64 v' ∧ Aside0 (wayB l by_ t d = v' ∧ RoomI n s t l x by_ side d m ∧ LH n s t A c l w wr w.heap.size)) (fun mo v wr => rk (intOf v))
  case atStart => exact ⟨0, 1073741824, t, rfl, rfl, ⟨rfl, HI0.out, LH.start HR.out⟩⟩
  case round =>
    obtain ⟨d, m, v, rfl, rfl, hrel⟩ := hrel
    have HV := Aside0.mk hrel.out.1
    have HI := Aside0.mk hrel.out.2.1
    have HL := Aside0.mk hrel.out.2.2
    clear hrel HI0
    have k1 := HL.out.c1
    by_cases hvs : v = s
    · have hb : (v != s) = false := by simpa using hvs
      have HVS := Aside0.mk hvs
      clear hvs
      go_wp2
      go_ret
      exact ⟨d, m, rfl, HL.out.ch, HI.out.pos, HI.out.top, HV.out.trans HVS.out, HI.out.step⟩
    have hb : (v != s) = true := by simpa using hvs
    have hnx := HI.out.next HN.out HT.out (by rw [HV.out]; exact hvs)
    have hlink := HT.out.link v (by rw [← HV.out]; exact HI.out.v0) (by rw [← HV.out]; exact HI.out.v1) (by rw [← HV.out]; exact HI.out.reach) hvs
    have HNX := Aside0.mk hnx.1
    have hmu := hnx.2
    have hlb := HT.out.lb
    have v0 : 0 ≤ v := by rw [← HV.out]; exact HI.out.v0
    have v1 : v < (by_.length : Int) := by rw [hlb, ← HV.out]; exact HI.out.v1
    obtain ⟨ad2, rfl, q2⟩ := at_gi (Kd.C_below HR2.out HL.out.ch.below) v v0 v1
    obtain ⟨e, he⟩ : ∃ e, gi by_ v = e := ⟨_, rfl⟩
    have HW := Aside0.mk (show wayB l by_ t (d + 1) = bPred l e by show bPred l (gi by_ (wayB l by_ t d)) = _; rw [HV.out, he])
    rw [HW.out, HV.out] at hmu
    rw [HV.out, he] at HNX
    rw [he] at q2 hlink
    obtain ⟨i0, i1, _, hroom⟩ := hlink.1
    have HVV := Aside0.mk (And.intro hvs he)
    clear hnx hlb hlink hvs he
    have k3 := HL.out.c3
    by_cases hpos : 0 < e
    · have hd : decide (0 < e) = true := decide_eq_true hpos
      obtain ⟨k, hk⟩ : ∃ k : Nat, e = (k : Int) + 1 := ⟨(e - 1).toNat, by omega⟩
      subst hk
      have e1 : (k : Int) + 1 - 1 = k := by omega
      unfold bIdx at i0 i1
      rw [if_pos hpos, e1] at i0 i1
      obtain ⟨ad, rfl, c0, c1', c2'⟩ := at_T43 HL.out.arcs k i0 i1
      obtain ⟨ad1, rfl, x0⟩ := at_gi (Kd.C_below HR1.out HL.out.ch.below) k i0 (by rw [HF.out.1]; exact i1)
      have hxl : (k : Int) < (x.length : Int) := by rw [HF.out.1]; exact i1
      have hcap := HF.out.2.1 k (by omega)
      have hok := HN.out.arcs k (by omega)
      obtain ⟨_, _, _, j2, j3⟩ := hok
      have HEX := Aside0.mk (show bRoom l x ((k : Int) + 1) = (rd_T43 l k).f2 - gi x k by unfold bRoom; rw [if_pos hpos, e1])
      have HEP := Aside0.mk (show bPred l ((k : Int) + 1) = (rd_T43 l k).f0 by unfold bPred; rw [if_pos hpos, e1])
      rw [HEX.out] at HNX
      rw [HEP.out] at HW hmu
      clear hroom e1 HEX HEP c1'
      simp only [Int.toNat_natCast] at c0 c2' x0
      generalize hz2 : (rd_T43 l k).f2 = z2 at *
      generalize hz0 : (rd_T43 l k).f0 = z0 at *
      generalize hzx : gi x k = zx at *
      have HZ := Aside0.mk (And.intro hz2 (And.intro hz0 hzx))
      clear hz2 hz0 hzx
      have hmp := HI.out.pos
      have hmt := HI.out.top
      obtain ⟨hc0, hc1⟩ := hcap
      go_upto_region 6 with (fail)
      go_quiet (fail)
      go_wp2
      go_roundw
      case rel => exact ⟨d + 1, _, _, rfl, rfl, ⟨HW.out, HNX.out, HL.out.move ((Ch.refl [] _).drewN _)⟩⟩
      case measure => exact hmu
    · have hd : decide (0 < e) = false := decide_eq_false hpos
      obtain ⟨k, hk⟩ : ∃ k : Nat, -e = (k : Int) + 1 := ⟨(-e - 1).toNat, by unfold bIdx at i0; rw [if_neg hpos] at i0; omega⟩
      have e1 : -e - 1 = k := by omega
      unfold bIdx at i0 i1
      rw [if_neg hpos, e1] at i0 i1
      obtain ⟨ad, rfl, c0, c1', c2'⟩ := at_T43 HL.out.arcs k i0 i1
      obtain ⟨ad1, rfl, x0⟩ := at_gi (Kd.C_below HR1.out HL.out.ch.below) k i0 (by rw [HF.out.1]; exact i1)
      have hxl : (k : Int) < (x.length : Int) := by rw [HF.out.1]; exact i1
      have hcap := HF.out.2.1 k (by omega)
      have hok := HN.out.arcs k (by omega)
      obtain ⟨_, _, _, j2, j3⟩ := hok
      have HEX := Aside0.mk (show bRoom l x e = gi x k by unfold bRoom; rw [if_neg hpos, e1])
      have HEP := Aside0.mk (show bPred l e = (rd_T43 l k).f1 by unfold bPred; rw [if_neg hpos, e1])
      rw [HEX.out] at HNX
      rw [HEP.out] at HW hmu
      have ee : e = -(k : Int) - 1 := by omega
      have HVV := Aside0.mk ee
      subst ee
      clear hroom e1 hk HEX HEP c0
      simp only [Int.toNat_natCast] at c1' c2' x0
      generalize hz2 : (rd_T43 l k).f2 = z2 at *
      generalize hz0 : (rd_T43 l k).f1 = z0 at *
      generalize hzx : gi x k = zx at *
      have HZ := Aside0.mk (And.intro hz2 (And.intro hz0 hzx))
      clear hz2 hz0 hzx
      have hmp := HI.out.pos
      have hmt := HI.out.top
      obtain ⟨hc0, hc1⟩ := hcap
      go_upto_region 9 with (fail)
      rw [show -(-(k : Int) - 1) - 1 = (k : Int) by omega]
      go_wp2
      go_roundw
      case rel => exact ⟨d + 1, _, _, rfl, rfl, ⟨HW.out, HNX.out, HL.out⟩⟩
      case measure => exact hmu

/-! ### append of a copy of whole numbers -/
theorem pl_append_copyI {P : Program} {ops : Array Oper} {rest : List Oper} {o : Oper} {a : Act} {Q : Exit → Act → World → Prop} (s x : Operand) (t : TypeId) (ad : Addr) (c : Nat) (xs : List Int) (B g : Nat) (W : World) (hgd : o.guard = none)
    (ho : o.op = .call { callee := .builtin .append, args := #[s, x], argTypes := #[t, t] })
    (ht : P.underlying t = some (.slice 3)) (hinfo : (P.info? 3).map (fun i => (i.zero, i.size, i.bytes)) = some (some (.int .i64 0), 1, 8))
    (hs : a.eval s = .slice (some ⟨g, 0, none⟩) 0 0) (hx : a.eval x = .slice (some ad) xs.length c) (hgW : W.heap.size = g) (HC : (Kd.int .i64).C W (some ad) xs.length xs) (hB : B ≤ W.heap.size) (hl : xs.length ≤ 100000)
    (h : ∀ v' w', Row w' B v' xs → (W.alloc (.cells #[] 3)).grownBy w' (some g) → wpList P ops Q rest (a.put o.dst v') w') :
    wpList P ops Q (o :: rest) a (W.alloc (.cells #[] 3)) := by
  subst hgW
  obtain ⟨i0, hi, hz0, hz1, hz2⟩ := info_parts hinfo
  have hown0 := World.ownsRow_made (e := 3) (size := 1) W #[] 0 hB (by simp [maxLen]) rfl
  refine wpList_append_own (W.alloc (.cells #[] 3)) hgd s x t ho B 3 i0 (.int .i64 0) 1 8 ht hi hz0 hz1 hz2 rfl (by decide) _ 0 [] hs hown0 ad xs.length c (xs.map (Value.int .i64)) hx (by simp) ?_ (ints_oneCell .i64 xs) (by simp only [maxLen]; omega) (by omega) (by simp; omega) ?_
  · intro j u hu
    have hj : j < xs.length := by simpa using (List.getElem?_eq_some_iff.1 hu).1
    obtain ⟨ad', e, hcell⟩ := at_gi (Kd.C_alloc HC (.cells #[] 3)) j (by omega) (by omega)
    cases e
    rw [Int.toNat_natCast] at hcell
    rw [hcell]
    unfold gi
    rw [Int.toNat_natCast, List.getD_eq_getElem?_getD, List.getElem?_eq_getElem hj]
    rw [List.getElem?_map, List.getElem?_eq_getElem hj] at hu
    exact hu
  · intro v' w' hown hg _
    refine h v' w' ?_ hg
    rw [Nat.zero_add, List.nil_append] at hown
    exact hown

/-- The memory of send: the flow that is changed lies in a row of the call's own. -/
structure SendM (N s t : Int) (A : Option Addr) (c : Nat) (l : List S43) (w W : World) (g cp : Nat) (out : List Int) : Prop where
  hr : k43.C w A l.length l
  h : LH N s t A c l w W w.heap.size
  row : W.ownsRow w.heap.size 3 1 (.slice (some ⟨g, 0, none⟩) out.length cp) out.length (out.map (Value.int .i64))
section
variable {N s t : Int} {A : Option Addr} {c : Nat} {l : List S43} {w W : World} {g cp : Nat} {out : List Int}
theorem SendM.at (h : SendM N s t A c l w W g cp out) (k : Nat) (hk : k < out.length) : W.cell? ⟨g, k, none⟩ = some (.int .i64 (gi out k)) ∧ W.frozen? ⟨g, k, none⟩ = false ∧ g < W.heap.size := by
  refine ⟨?_, h.row.frozenAt k, (h.row.lt g rfl).2⟩
  rw [h.row.cellAt k (by omega), List.getElem?_map, List.getElem?_eq_getElem hk]
  unfold gi
  rw [Int.toNat_natCast, List.getD_eq_getElem?_getD, List.getElem?_eq_getElem hk]; rfl
theorem SendM.set (h : SendM N s t A c l w W g cp out) (k : Nat) (y : Int) : SendM N s t A c l w (W.setCell ⟨g, k, none⟩ (.int .i64 y)) g cp (out.set k y) := by
  have hB := (h.row.lt g rfl).1
  have hch : Ch [] w (W.setCell ⟨g, k, none⟩ (.int .i64 y)) := h.h.ch.setCell _ _ (.inr hB)
  have hne : w.heap.size ≠ g := fun e => by
    obtain ⟨cs, hcs⟩ := own_typed h.row g rfl
    have := h.h.blk
    rw [e, hcs] at this
    cases this
  refine ⟨h.hr, ⟨hch, blk_other h.h.blk _ _ hne, Kd.C_below h.hr hch.below⟩, ?_⟩
  have := (h.row.stored k (.int .i64 y)).1
  rw [List.length_set, List.map_set]
  exact this
end
theorem SendM.ne {N s t : Int} {A : Option Addr} {c : Nat} {l : List S43} {w W : World} {g cp : Nat} {out : List Int} (h : SendM N s t A c l w W g cp out) : w.heap.size ≠ g := fun e => by
  obtain ⟨cs, hcs⟩ := own_typed h.row g rfl
  have := h.h.blk
  rw [e, hcs] at this
  cases this

set_option maxHeartbeats 4000000 in
set_option maxRecDepth 100000 in
theorem send_calls (n : Nat) (s t : Int) (A : Option Addr) (c : Nat) (l : List S43) (A1 : Option Addr) (c1 : Nat) (x : List Int) (A2 : Option Addr) (c2 : Nat) (by_ : List Int) (side : List Bool) (rk : Int → Nat) (d0 : Nat) (m : Int) (w : World) (hn : NetOk n s t l) (hr : k43.C w A l.length l) (hr1 : (Kd.int .i64).C w A1 x.length x) (hf : flowOk n s t l x)
    (hr2 : (Kd.int .i64).C w A2 by_.length by_) (hT : TreeB n s l x by_ side rk) (ht : gb side t = true) (hw : Way s t l x by_ d0 m) :
    Calls Try.prog 33 #[.agg #[.int .i64 n, .int .i64 s, .int .i64 t, .slice A l.length c], .slice A1 x.length c1, .slice A2 by_.length c2, .int .i64 m] w fun e w' => ∃ (g cp : Nat) (out : List Int), e = .returned (.slice (some ⟨g, 0, none⟩) out.length cp) ∧ Ch [] w w' ∧ Row w' w.heap.size (.slice (some ⟨g, 0, none⟩) out.length cp) out ∧ flowOk n s t l out ∧ sur l out s = sur l x s + m := by
  obtain ⟨t0, t1⟩ := inV_true.1 hn.arg.2.2.2.1
  have hl0 : 0 < l.length := by
    have hb := (hT.link t t0 t1 ht (Ne.symm hn.arg.2.2.2.2)).1
    have := hb.i0
    have := hb.i1
    omega
  obtain ⟨ad1, rfl, _⟩ := at_gi hr1 0 (by omega) (by rw [hf.1]; omega)
  clear t0 t1
  have HN := Aside0.mk hn
  have HR := Aside0.mk hr
  have HR1 := Aside0.mk hr1
  have HR2 := Aside0.mk hr2
  have HF := Aside0.mk hf
  have HT := Aside0.mk hT
  have HWY := Aside0.mk hw
  have hl5 := hn.len
  have hm1 := hw.pos
  have hm2 := hw.top
  have HI0 := Aside0.mk (SI.start (by_ := by_) (rk := rk) (m := m) hn hf ht)
  have HXL := Aside0.mk (show x.length ≤ 100000 by rw [hf.1]; omega)
  have HXP := Aside0.mk (show 0 < x.length by rw [hf.1]; exact hl0)
  clear hn hr hr1 hr2 hf hT ht hw hl0
  go_enter Try.func33, Try.ntmps33
  go_upto_region 2 with (at_builtin; refine pl_append_copyI (.tmp 13) (.tmp 14) 25 ad1 c1 x w.heap.size (w.heap.size + 1) (w.alloc (.cells #[.int .i64 n, .int .i64 s, .int .i64 t, .slice A l.length c] 24)) rfl rfl Try.underlying25 info3 rfl rfl (by simp) (Kd.C_alloc HR1.out _) (by simp) HXL.out ?_; intro v' w1 hr hg; have HAP := Aside0.mk (And.intro hr hg); clear hr hg)
  obtain ⟨g, cp, hv, _, _⟩ := World.ownsRow.form HAP.out.1 HXP.out
  subst hv
  refine wp_abs (fun W => SendM n s t A c l w W g cp x) ⟨HR.out, (LH.start HR.out).move (World.grownBy.ch ((Ch.refl [] _).alloc _) HAP.out.2 (fun b e => by cases e; exact .inr (by simp))), HAP.out.1⟩ ?_
  clear HAP
  intro W0 h0
  have H0 := Aside0.mk h0
  have k2 := h0.h.c2
  clear h0
  go_wp2
  clear k2
  go_loopw [10] (fun v wr => ∃ (d : Nat) (v' : Int), v = .int .i64 v' ∧ Aside0 (∃ out : List Int, (wayB l by_ t d = v' ∧ d ≤ d0) ∧ SI n s t l x by_ side rk m v' out ∧ SendM n s t A c l w wr g cp out)) (fun v wr => rk (intOf v))
  case atStart => exact ⟨0, t, rfl, ⟨x, ⟨rfl, Nat.zero_le _⟩, HI0.out, H0.out⟩⟩
  case round =>
    obtain ⟨d, v, rfl, hrel⟩ := hrel
    obtain ⟨out, hv, hsi, hsm⟩ := hrel.out
    have HV := Aside0.mk hv
    have HI := Aside0.mk hsi
    have HM := Aside0.mk hsm
    have hlo := hsi.len
    clear hrel HI0 H0 hv hsi hsm
    have k1 := HM.out.h.c1
    by_cases hvs : v = s
    · have hb : (v != s) = false := by simpa using hvs
      subst hvs
      have hfin := HI.out.done HN.out HF.out
      have HFN := Aside0.mk hfin
      have hlx : out.length = x.length := by rw [hlo, HF.out.1]
      have HLX := Aside0.mk hlx
      have hrow := HM.out.row
      rw [hlx] at hrow
      have HROW := Aside0.mk hrow
      clear hfin hlo hlx hrow
      go_wp2
      go_ret
      refine ⟨g, cp, out, by rw [HLX.out]; rfl, HM.out.h.ch, ?_, HFN.out.1, HFN.out.2⟩
      exact HM.out.row
    have hb : (v != s) = true := by simpa using hvs
    have hdlt : d < d0 := by
      have := HV.out.2
      rcases Nat.lt_or_ge d d0 with h | h
      · exact h
      · exfalso
        have e : d = d0 := by omega
        have := HWY.out.src
        rw [← e, HV.out.1] at this
        exact hvs this
    have hroom := (HWY.out.step d hdlt).2
    rw [HV.out.1] at hroom
    have hnext := HI.out.step HN.out HF.out HT.out hvs (by omega) hroom
    have hlink := HT.out.link v HI.out.v0 HI.out.v1 HI.out.reach hvs
    have hmu := hlink.2.2
    have hlb := HT.out.lb
    have v0 : 0 ≤ v := HI.out.v0
    have v1 : v < (by_.length : Int) := by rw [hlb]; exact HI.out.v1
    obtain ⟨ad2, rfl, q2⟩ := at_gi (Kd.C_below HR2.out HM.out.h.ch.below) v v0 v1
    have HW := Aside0.mk (show wayB l by_ t (d + 1) = bPred l (gi by_ v) by show bPred l (gi by_ (wayB l by_ t d)) = _; rw [HV.out.1])
    obtain ⟨i0, i1, _, _⟩ := hlink.1
    generalize gi by_ v = e at *
    have HNX := Aside0.mk hnext
    have HVV := Aside0.mk hvs
    have HD := Aside0.mk hdlt
    have hnb := HM.out.ne
    clear hlink hlb hvs hnext hroom hdlt
    have k3 := HM.out.h.c3
    by_cases hpos : 0 < e
    · have hd : decide (0 < e) = true := decide_eq_true hpos
      obtain ⟨k, hk⟩ : ∃ k : Nat, e = (k : Int) + 1 := ⟨(e - 1).toNat, by omega⟩
      subst hk
      have e1 : (k : Int) + 1 - 1 = k := by omega
      unfold bIdx at i0 i1
      rw [if_pos hpos, e1] at i0 i1
      have HS := Aside0.mk (show bSet out ((k : Int) + 1) m = out.set k (gi out k + m) by unfold bSet; rw [if_pos hpos, e1, Int.toNat_natCast])
      have HEP := Aside0.mk (show bPred l ((k : Int) + 1) = (rd_T43 l k).f0 by unfold bPred; rw [if_pos hpos, e1])
      rw [HEP.out] at HW hmu HNX
      rw [HS.out] at HNX
      have hcap := HI.out.caps k (by omega)
      have hok := HN.out.arcs k (by omega)
      obtain ⟨ad, rfl, c0, _, _⟩ := at_T43 HM.out.h.arcs k i0 i1
      obtain ⟨o0, o1, o2⟩ := HM.out.at k (by omega)
      have HM2 := Aside0.mk (HM.out.set k (gi out k + m))
      have hkl : (k : Int) < (x.length : Int) := by rw [HF.out.1]; exact i1
      obtain ⟨_, _, _, j2, j3⟩ := hok
      obtain ⟨hc0, hc1⟩ := hcap
      have hc2 : gi out k ≤ 1073741824 := by omega
      have k3' := HM2.out.h.c3
      obtain ⟨_, e9, c0', _, _⟩ := at_T43 HM2.out.h.arcs k i0 i1
      cases e9
      have hkp := blk_lt HM.out.h.blk
      have hkp2 := blk_lt HM2.out.h.blk
      clear e1 HEP HS hc1 j2 j3
      simp only [Int.toNat_natCast] at c0 c0'
      generalize (rd_T43 l k).f0 = z0 at *
      generalize gi out k = zx at *
      go_wp2
      go_roundw
      case rel => exact ⟨d + 1, _, rfl, ⟨_, ⟨HW.out, HD.out⟩, HNX.out, HM2.out⟩⟩
      case measure => exact hmu
    · have hd : decide (0 < e) = false := decide_eq_false hpos
      obtain ⟨k, hk⟩ : ∃ k : Nat, -e = (k : Int) + 1 := ⟨(-e - 1).toNat, by unfold bIdx at i0; rw [if_neg hpos] at i0; omega⟩
      have e1 : -e - 1 = k := by omega
      unfold bIdx at i0 i1
      rw [if_neg hpos, e1] at i0 i1
      have HS := Aside0.mk (show bSet out e m = out.set k (gi out k - m) by unfold bSet; rw [if_neg hpos, e1, Int.toNat_natCast])
      have HEP := Aside0.mk (show bPred l e = (rd_T43 l k).f1 by unfold bPred; rw [if_neg hpos, e1])
      rw [HEP.out] at HW hmu HNX
      rw [HS.out] at HNX
      have hcap := HI.out.caps k (by omega)
      have hok := HN.out.arcs k (by omega)
      obtain ⟨ad, rfl, _, c0, _⟩ := at_T43 HM.out.h.arcs k i0 i1
      obtain ⟨o0, o1, o2⟩ := HM.out.at k (by omega)
      have HM2 := Aside0.mk (HM.out.set k (gi out k - m))
      have hkl : (k : Int) < (x.length : Int) := by rw [HF.out.1]; exact i1
      obtain ⟨_, _, _, j2, j3⟩ := hok
      obtain ⟨hc0, hc1⟩ := hcap
      have hc2 : gi out k ≤ 1073741824 := by omega
      have k3' := HM2.out.h.c3
      obtain ⟨_, e9, _, c0', _⟩ := at_T43 HM2.out.h.arcs k i0 i1
      cases e9
      have hkp := blk_lt HM.out.h.blk
      have hkp2 := blk_lt HM2.out.h.blk
      have ee : e = -(k : Int) - 1 := by omega
      have HVE := Aside0.mk ee
      subst ee
      clear e1 HEP HS hc1 j2 j3 hk
      simp only [Int.toNat_natCast] at c0 c0'
      generalize (rd_T43 l k).f1 = z0 at *
      generalize gi out k = zx at *
      go_upto_region 9 with (fail)
      rw [show -(-(k : Int) - 1) - 1 = (k : Int) by omega]
      go_wp2
      go_roundw
      case rel => exact ⟨d + 1, _, rfl, ⟨_, ⟨HW.out, HD.out⟩, HNX.out, HM2.out⟩⟩
      case measure => exact hmu
end

section
set_option linter.unusedVariables false
set_option linter.unusedSimpArgs false
open Go.RowKit PFlowMaxSpec Go.Proofs.YtipfpckjgfjehaaW.PrintWords
attribute [local go_sem] Oper.semAt_some

set_option maxHeartbeats 4000000 in
theorem refmax_bad (N s t : Int) (A : Option Addr) (c : Nat) (l : List S43) (w : World) (hr : Kd.C k43 w A l.length l) (hcap : l.length ≤ c) (hz : chk N s t l ≠ 0) :
    Calls Try.prog 19 #[.agg #[.int .i64 N, .int .i64 s, .int .i64 t, .slice A l.length c]] w fun e w' => e = .returned (.tuple #[.slice none 0 0, .slice none 0 0, .int .i64 (chk N s t l)]) ∧ Ch [] w w' := by
  have HR := Aside0.mk hr
  have HCAP := Aside0.mk hcap
  clear hr hcap
  generalize hq : chk N s t l = q at hz
  have HZ := Aside0.mk hq
  clear hq
  have b1 : (q != 0) = true := by simpa using hz
  go_enter Try.func19, Try.ntmps19
  go_wp2_with (go_at_call 16; refine (refcheck_calls N s t A c l _ (LH.start (N := N) (s := s) (t := t) (c := c) HR.out).arcs HCAP.out).mono ?_; rintro e w1 ⟨he, hc⟩; rw [HZ.out] at he; subst he; have H1 := Aside0.mk ((LH.start (N := N) (s := s) (t := t) (c := c) HR.out).move hc); clear hc)
  go_ret3
  exact ⟨rfl, H1.out.ch⟩

theorem flow_zero {N s t : Int} {l : List S43} (hn : NetOk N s t l) : flowOk N s t l (List.replicate l.length 0) ∧ sur l (List.replicate l.length 0) s = 0 := by
  have hz : ∀ k : Nat, gi (List.replicate l.length 0) k = 0 := fun k => by
    unfold gi
    rw [List.getD_eq_getElem?_getD, List.getElem?_replicate]
    split <;> rfl
  have hs : ∀ u, sur l (List.replicate l.length 0) u = 0 := fun u => by
    unfold sur surK
    exact sumR_zero (fun k _ => by rw [hz, Int.zero_mul])
  refine ⟨⟨by simp, fun k hk => ?_, fun u _ _ _ => hs u⟩, hs s⟩
  rw [hz]
  exact ⟨Int.le_refl _, (hn.arcs k hk).2.2.2.1⟩

set_option maxHeartbeats 8000000 in
set_option maxRecDepth 100000 in
set_option warningAsError false in
theorem refmax_calls (N s t : Int) (A : Option Addr) (c : Nat) (l : List S43) (w : World) (hr : Kd.C k43 w A l.length l) (hcap : l.length ≤ c) (hz : chk N s t l = 0) :
    Calls Try.prog 19 #[.agg #[.int .i64 N, .int .i64 s, .int .i64 t, .slice A l.length c]] w fun e w' => ∃ A1 c1 A2 c2 x side, e = .returned (.tuple #[.slice A1 x.length c1, .slice A2 side.length c2, .int .i64 0]) ∧ Ch [] w w' ∧ MaxRes N s t l x side ∧ (Kd.int .i64).C w' A1 x.length x ∧ x.length ≤ c1 ∧ Kd.bool.C w' A2 side.length side ∧ side.length ≤ c2 := by
  have hn := NetOk.of hz
  obtain ⟨n, rfl⟩ : ∃ n : Nat, N = n := ⟨N.toNat, by have := hn.arg.1; omega⟩
  have HN := Aside0.mk hn
  have HR := Aside0.mk hr
  have HCAP := Aside0.mk hcap
  have HZ := Aside0.mk hz
  have hl5 := hn.len
  have hN64 := hn.arg.2.1
  obtain ⟨t0, t1⟩ := inV_true.1 hn.arg.2.2.2.1
  clear hn hr hcap hz
  obtain ⟨i0, hi0, hz0, hz1, hz2⟩ := info_parts info3
  have HI := Aside0.mk (And.intro hi0 (And.intro hz0 (And.intro hz1 hz2)))
  clear hi0 hz0 hz1 hz2
  go_enter Try.func19, Try.ntmps19
  go_upto_region 4 with (go_at_call 16; refine (refcheck_calls n s t A c l _ (LH.start (N := n) (s := s) (t := t) (c := c) HR.out).arcs HCAP.out).mono ?_; rintro e w1 ⟨he, hc⟩; rw [HZ.out] at he; subst he; have H1 := Aside0.mk ((LH.start (N := n) (s := s) (t := t) (c := c) HR.out).move hc); clear hc)
  have k3 := H1.out.c3
  go_wp2_with (refine wpList_make_full _ rfl (.tmp 16) (.tmp 16) 25 rfl w.heap.size 3 i0 (.int .i64 0) 1 Try.underlying25 HI.out.1 HI.out.2.1 HI.out.2.2.1 .i64 .i64 l.length l.length l.length rfl rfl rfl rfl (by rw [HI.out.2.2.2]; omega) (by simp only [maxLen]; omega) H1.out.ch.size ?_; intro w2 hown hg; have HO := Aside0.mk (And.intro hown hg); clear hown hg)
  clear k3
  have h0 := own_whole HO.out.1
  rw [show (Value.int .i64 0).cells = #[Value.int .i64 0] from rfl, Nat.mul_one, toList_madeCells_one] at h0
  have h1 : w2.heap[w1.heap.size]? = some (.cells (intsOf (List.replicate l.length 0)) 3 (0, 0)) := by rw [h0]; simp [intsOf]
  have H2 := Aside0.mk (H1.out.move (Ch.of_grown HO.out.2 [] (fun b e => by cases e)))
  have HX := Aside0.mk (C_ints h1 (by simp; omega))
  have HF0 := Aside0.mk (flow_zero HN.out)
  clear h0 h1 HO H1
  rw [List.length_replicate] at HX
  go_loopg [6] (549755813888) (fun g v wr => ∃ (A1 : Option Addr) (k c1 : Nat), v = .slice A1 k c1 ∧ Aside0 (∃ x : List Int, List.length x = k ∧ k ≤ c1 ∧ flowOk n s t l x ∧ 549755813888 - sur l x s ≤ g ∧ LH n s t A c l w wr w.heap.size ∧ (Kd.int .i64).C wr A1 x.length x))
  case atStart => exact ⟨_, _, _, rfl, ⟨List.replicate l.length 0, by simp, Nat.le_refl _, HF0.out.1, by rw [HF0.out.2]; omega, H2.out, by rw [List.length_replicate]; exact HX.out⟩⟩
  case round =>
    obtain ⟨A1, k, c1, rfl, hrel⟩ := hrel
    obtain ⟨x, rfl, hkc, hf, hgk, hl, hx⟩ := hrel.out
    have HF := Aside0.mk hf
    have HG := Aside0.mk (And.intro hkc hgk)
    have HL := Aside0.mk hl
    have HXC := Aside0.mk hx
    clear hrel hkc hf hgk hl hx HF0 HX H2
    have k0 := HL.out.c0
    have k1 := HL.out.c1
    have k2 := HL.out.c2
    have k3 := HL.out.c3
    go_upto_region 6 with (go_at_call 32; refine (steps_calls n s t A c l A1 c1 x _ HN.out HL.out.arcs HXC.out HF.out.1).mono ?_; rintro e w4 ⟨bb, sb, by_, side, q, rfl, hc, hb, hs, hg, hcl⟩; have HL4 := Aside0.mk (HL.out.move hc); have HB := Aside0.mk hb; have HS := Aside0.mk hs; have HGR := Aside0.mk hg; have HCL := Aside0.mk hcl; have HX4 := Aside0.mk (Kd.C_below HXC.out hc.below); clear hc hb hs hg hcl)
    clear k0 k1 k2 k3
    have k0 := HL4.out.c0
    have k1 := HL4.out.c1
    have k2 := HL4.out.c2
    have k3 := HL4.out.c3
    have hls := HGR.out.ls
    have hlb := HGR.out.lb
    have hbl : by_.length = n := by omega
    have hsl : side.length = n := by omega
    have st := (blk_cell HS.out t.toNat).trans (boolsOf_get side t.toNat (by omega))
    have sl := blk_lt HS.out
    have est : side.getD t.toNat false = gb side t := rfl
    rw [est] at st
    have HBL := Aside0.mk (And.intro hbl hsl)
    have hs0 := (inV_true.1 HN.out.arg.2.2.1)
    have HT := Aside0.mk (HGR.out.tree hs0)
    clear hls hlb hbl hsl est hs0
    cases hgt : gb side t with
    | false =>
      have HM := Aside0.mk (HT.out.final HN.out HF.out HCL.out hgt)
      rw [hgt] at st
      clear hgt
      go_wp2
      go_ret3
      have hcb := C_bools HS.out (by rw [HBL.out.2]; omega)
      rw [HBL.out.2] at hcb
      exact ⟨A1, c1, some ⟨sb, 0, none⟩, n, x, side, by rw [HBL.out.2]; rfl, HL4.out.ch, HM.out, HX4.out, HG.out.1, by rw [HBL.out.2]; exact hcb, by rw [HBL.out.2]; exact Nat.le_refl _⟩
    | true =>
      have HGT := Aside0.mk hgt
      rw [hgt] at st
      clear hgt
      have hcb := C_ints HB.out (by rw [HBL.out.1]; omega)
      have HCB := Aside0.mk hcb
      clear hcb
      have G34 : ∀ W, Ch [] w4 W → Calls Try.prog 34 #[.agg #[.int .i64 n, .int .i64 s, .int .i64 t, .slice A l.length c], .slice A1 x.length c1, .slice (some ⟨bb, 0, none⟩) n n] W fun e w' => ∃ (d : Nat) (m : Int), e = .returned (.int .i64 m) ∧ Ch [] W w' ∧ Way s t l x by_ d m := fun W hc => by
        have := room_calls n s t A c l A1 c1 x (some ⟨bb, 0, none⟩) n by_ side _ W HN.out (Kd.C_below HR.out (HL4.out.ch.trans hc (by simp)).below) (Kd.C_below HX4.out hc.below) HF.out (Kd.C_below HCB.out hc.below) HT.out HGT.out
        rw [HBL.out.1] at this
        exact this
      have G33 : ∀ W d m, Ch [] w4 W → Way s t l x by_ d m → Calls Try.prog 33 #[.agg #[.int .i64 n, .int .i64 s, .int .i64 t, .slice A l.length c], .slice A1 x.length c1, .slice (some ⟨bb, 0, none⟩) n n, .int .i64 m] W fun e w' => ∃ (g cp : Nat) (out : List Int), e = .returned (.slice (some ⟨g, 0, none⟩) out.length cp) ∧ Ch [] W w' ∧ Row w' W.heap.size (.slice (some ⟨g, 0, none⟩) out.length cp) out ∧ flowOk n s t l out ∧ sur l out s = sur l x s + m := fun W d m hc hw => by
        have := send_calls n s t A c l A1 c1 x (some ⟨bb, 0, none⟩) n by_ side _ d m W HN.out (Kd.C_below HR.out (HL4.out.ch.trans hc (by simp)).below) (Kd.C_below HX4.out hc.below) HF.out (Kd.C_below HCB.out hc.below) HT.out HGT.out hw
        rw [HBL.out.1] at this
        exact this
      have HG34 := Aside0.mk G34
      have HG33 := Aside0.mk G33
      clear G34 G33
      go_upto_region 8 with (fail)
      go_region_held3 (fun w' => w'.cell? ⟨w.heap.size, 0, none⟩ = some (.int .i64 n) ∧ w'.cell? ⟨w.heap.size, 1, none⟩ = some (.int .i64 s) ∧ w'.cell? ⟨w.heap.size, 2, none⟩ = some (.int .i64 t) ∧ w'.cell? ⟨w.heap.size, 3, none⟩ = some (.slice A l.length c))
        (first | exact ⟨k0, k1, k2, k3⟩ | exact ⟨HN1.out.c0, HN1.out.c1, HN1.out.c2, HN1.out.c3⟩ | exact ⟨HN2.out.c0, HN2.out.c1, HN2.out.c2, HN2.out.c3⟩)
        (first | (go_at_call 33; refine (HG33.out _ d m (by exact HCC.out) HWY.out).mono ?_; rintro e w7 ⟨g, cp, out, rfl, hc, hrow, hfo, hsu⟩; have HN2 := Aside0.mk (HN1.out.move hc); have HRO := Aside0.mk (And.intro hrow (And.intro hfo hsu)); clear hc hrow hfo hsu) | (go_at_call 34; refine (HG34.out _ ((Ch.refl [] _).drew)).mono ?_; rintro e w6 ⟨d, m, rfl, hc, hwy⟩; have HCC := Aside0.mk (((Ch.refl [] w4).drew).trans hc (by simp)); have HN1 := Aside0.mk (HL4.out.move HCC.out); have HWY := Aside0.mk hwy; clear hc hwy))
      all_goals (
        go_wp2
        have hb1 := flow_bound HN.out HRO.out.2.1
        have hb2 := flow_bound HN.out HF.out
        have hsu := HRO.out.2.2
        have hpos := HWY.out.pos
        have hgg := HG.out.2
        go_roundg (gk - 1)
        case rel =>
          obtain ⟨A9, c9, e9, hle, hC⟩ := HRO.out.1.toC (by rw [HRO.out.2.1.1]; omega)
          simp only [Value.slice.injEq, true_and] at e9
          obtain ⟨rfl, rfl⟩ := e9
          exact ⟨_, _, _, rfl, ⟨out, rfl, hle, HRO.out.2.1, by omega, HN2.out, hC⟩⟩
        case measure => omega)

theorem max_unique {N s t : Int} {l : List S43} {x y : List Int} {a b : List Bool} (hn : NetOk N s t l) (h : MaxRes N s t l x a) (h' : MaxRes N s t l y b) : sur l x s = sur l y s ∧ a = b := by
  have w1 := weak hn h.flow h'.sd
  have w2 := weak hn h'.flow h.sd
  have e1 := h.eq
  have e2 := h'.eq
  have hv : sur l x s = sur l y s := by omega
  refine ⟨hv, ?_⟩
  have l1 := h.sd.1
  have l2 := h'.sd.1
  have a1 := h.least b h'.sd (by omega)
  have a2 := h'.least a h.sd (by omega)
  refine bools_ext (by omega) (fun v hv => ?_)
  have b1 := a1 v (by omega) (by omega)
  have b2 := a2 v (by omega) (by omega)
  cases h1 : gb a v <;> cases h2 : gb b v <;> simp_all

set_option maxHeartbeats 4000000 in
theorem most_calls (N s t : Int) (A : Option Addr) (c : Nat) (l : List S43) (w : World) (hr : Kd.C k43 w A l.length l) (hcap : l.length ≤ c) (hz : chk N s t l = 0) :
    Calls Try.prog 20 #[.agg #[.int .i64 N, .int .i64 s, .int .i64 t, .slice A l.length c]] w fun e w' => ∃ x side, e = .returned (.int .i64 (sur l x s)) ∧ Ch [] w w' ∧ MaxRes N s t l x side := by
  have HR := Aside0.mk hr
  have HCAP := Aside0.mk hcap
  have HZ := Aside0.mk hz
  clear hr hcap hz
  go_enter Try.func20, Try.ntmps20
  go_upto_region 2 with (go_at_call 19; refine (refmax_calls N s t A c l _ (LH.start (N := N) (s := s) (t := t) (c := c) HR.out).arcs HCAP.out HZ.out).mono ?_; rintro e w1 ⟨A1, c1, A2, c2, x, side, rfl, hc, hm, hx, hxc, _, _⟩; have H1 := Aside0.mk ((LH.start (N := N) (s := s) (t := t) (c := c) HR.out).move hc); have HM := Aside0.mk hm; have HX := Aside0.mk (And.intro hx hxc); clear hc hm hx hxc)
  have HV := Aside0.mk (val_of_max HZ.out HM.out)
  have k0 := H1.out.c0
  have k1 := H1.out.c1
  have k2 := H1.out.c2
  have k3 := H1.out.c3
  obtain ⟨va, hva⟩ : ∃ va, sur l x s = va := ⟨_, rfl⟩
  have HVA := Aside0.mk hva
  rw [hva] at HV
  clear hva
  go_wp2_with (go_at_call 12; refine (refvalue_calls N s t A c l A1 c1 x _ H1.out.arcs HCAP.out HX.out.1 HX.out.2).mono ?_; rintro e w2 ⟨he, hc⟩; rw [HV.out] at he; subst he; have H2 := Aside0.mk (H1.out.move hc); clear hc)
  go_ret
  exact ⟨x, side, by rw [HVA.out]; rfl, H2.out.ch, HM.out⟩
end

section
set_option linter.unusedVariables false
set_option linter.unusedSimpArgs false
open Go.RowKit PFlowMaxSpec Go.Proofs.YtipfpckjgfjehaaW.PrintWords
attribute [local go_sem] Oper.semAt_some

/-- Max, its rows read, with their room. -/
theorem max_calls3 (N s t : Int) (A : Option Addr) (c : Nat) (l : List S43) (w : World) (hr : Kd.C k43 w A l.length l) (hz : chk N s t l = 0) :
    Calls Try.prog 18 #[.agg #[.int .i64 N, .int .i64 s, .int .i64 t, .slice A l.length c]] w fun e w' => ∃ A1 c1 A2 c2 x side, e = .returned (.tuple #[.slice A1 x.length c1, .slice A2 side.length c2, .int .i64 0]) ∧ Ch [] w w' ∧ MaxRes N s t l x side ∧ (Kd.int .i64).C w' A1 x.length x ∧ x.length ≤ c1 ∧ Kd.bool.C w' A2 side.length side ∧ side.length ≤ c2 := by
  refine (max_calls N s t A c l w hr hz).mono ?_
  rintro e w' ⟨v2, v3, x, side, rfl, hc, hm, h2, h3⟩
  have hx : x.length ≤ 1000000 := by rw [hm.flow.1]; have := (chk_zero hz).2.1; omega
  have hs : side.length ≤ 1000000 := by have := hm.sd.1; have := (chk_zero hz).1.2.1; omega
  obtain ⟨A1, c1, rfl, h5, k2⟩ := h2.toC hx
  obtain ⟨A2, c2, rfl, h4, k3⟩ := h3.toC hs
  exact ⟨A1, c1, A2, c2, x, side, rfl, hc, hm, k2, h5, k3, h4⟩

set_option maxHeartbeats 4000000 in
set_option maxRecDepth 100000 in
theorem maxspec_calls (N s t : Int) (A : Option Addr) (c : Nat) (l : List S43) (w : World) (hr : k43.C w A l.length l) (hcap : l.length ≤ c) (_hnone : A = none → c = 0) :
    Calls Try.prog 4 #[.agg #[.int .i64 N, .int .i64 s, .int .i64 t, .slice A l.length c]] w fun e w' => e = .returned (.bool true) ∧ Ch [] w w' := by
  have HR := Aside0.mk hr
  have HCAP := Aside0.mk hcap
  clear hr hcap
  go_enter Try.func4, Try.ntmps4
  go_upto_region 3 with (go_at_call 10; refine (sane_calls _).mono ?_; rintro e w1 ⟨rfl, hc⟩; have H1 := Aside0.mk ((LH.start (N := N) (s := s) (t := t) (c := c) HR.out).move hc); clear hc)
  have k0 := H1.out.c0
  have k1 := H1.out.c1
  have k2 := H1.out.c2
  have k3 := H1.out.c3
  cases hf : few N s t l with
  | false =>
    have HF := Aside0.mk hf
    clear hf
    go_wp2_with (go_at_call 17; refine (fastiref13_Few.calls 600 N s t A c l _ _ H1.out.arcs HCAP.out (few_f N s t l)).mono ?_; rintro e w2 ⟨he, hb⟩; rw [HF.out] at he; subst he; have H2 := Aside0.mk (H1.out.move (Ch.of_below hb [])); clear hb)
    go_ret
    exact ⟨rfl, H2.out.ch⟩
  | true =>
  have HF := Aside0.mk hf
  go_upto_region 5 with (go_at_call 17; refine (fastiref13_Few.calls 600 N s t A c l _ _ H1.out.arcs HCAP.out (few_f N s t l)).mono ?_; rintro e w2 ⟨he, hb⟩; rw [HF.out] at he; subst he; have H2 := Aside0.mk (H1.out.move (Ch.of_below hb [])); clear hb)
  clear k0 k1 k2 k3 H1
  have k0 := H2.out.c0
  have k1 := H2.out.c1
  have k2 := H2.out.c2
  have k3 := H2.out.c3
  by_cases hz : chk N s t l = 0
  rotate_left
  · have HLL := Aside0.mk (show l.length ≤ 100000 by
      unfold few at hf
      rw [if_neg hz] at hf
      have := of_decide_eq_true hf
      omega)
    have HZN := Aside0.mk hz
    obtain ⟨q, hq⟩ : ∃ q, chk N s t l = q := ⟨_, rfl⟩
    rw [hq] at hz
    have b1 : (q != 0) = true := by simpa using hz
    have HZ := Aside0.mk hq
    clear hq hz hf
    go_upto_region 6 with (go_at_call 18; refine (max_bad N s t A c l _ H2.out.arcs HLL.out HZN.out).mono ?_; rintro e w3 ⟨he, hc⟩; rw [HZ.out] at he; subst he; have H3 := Aside0.mk (H2.out.move hc); clear hc)
    clear k0 k1 k2 k3
    have k0 := H3.out.c0
    have k1 := H3.out.c1
    have k2 := H3.out.c2
    have k3 := H3.out.c3
    go_wp2_with (go_at_call 19; refine (refmax_bad N s t A c l _ H3.out.arcs HCAP.out HZN.out).mono ?_; rintro e w4 ⟨he, hc⟩; rw [HZ.out] at he; subst he; have H4 := Aside0.mk (H3.out.move hc); clear hc)
    go_ret
    exact ⟨rfl, H4.out.ch⟩
  have HZ := Aside0.mk hz
  have HN := Aside0.mk (NetOk.of hz)
  have hN64 := HN.out.arg.2.1
  clear hz hf
  go_upto_region 6 with (go_at_call 18; refine (max_calls3 N s t A c l _ H2.out.arcs HZ.out).mono ?_; rintro e w3 ⟨A1, c1, A2, c2, x, side, rfl, hc, hm, hx, hxc, hs, hle⟩; have HLE := Aside0.mk hxc; have H3 := Aside0.mk (H2.out.move hc); have HM := Aside0.mk hm; have HX := Aside0.mk hx; have HS := Aside0.mk (And.intro hs hle); clear hc hm hx hxc hs hle)
  clear k0 k1 k2 k3
  have k0 := H3.out.c0
  have k1 := H3.out.c1
  have k2 := H3.out.c2
  have k3 := H3.out.c3
  go_upto_region 7 with (go_at_call 19; refine (refmax_calls N s t A c l _ H3.out.arcs HCAP.out HZ.out).mono ?_; rintro e w4 ⟨A3, c3, A4, c4, y, sd, rfl, hc, hm, _, _, hs, hle⟩; have H4 := Aside0.mk (H3.out.move hc); have HM4 := Aside0.mk hm; have HX4 := Aside0.mk (Kd.C_below HX.out hc.below); have HS4 := Aside0.mk (Kd.C_below HS.out.1 hc.below); have HSD := Aside0.mk (And.intro hs hle); clear hc hm hs hle)
  clear k0 k1 k2 k3
  have k0 := H4.out.c0
  have k1 := H4.out.c1
  have k2 := H4.out.c2
  have k3 := H4.out.c3
  have HEQ := Aside0.mk (max_unique HN.out HM.out HM4.out).2
  have hsl := HM.out.sd.1
  have HSM := Aside0.mk (same_self side (by omega))
  have HV := Aside0.mk (val_of_max HZ.out HM.out)
  obtain ⟨va, hva⟩ : ∃ va, sur l x s = va := ⟨_, rfl⟩
  rw [hva] at HV
  have HVA := Aside0.mk hva
  clear hva hsl hN64
  go_upto_region 10 with (go_at_call 12; refine (refvalue_calls N s t A c l A1 c1 x _ H4.out.arcs HCAP.out HX4.out HLE.out).mono ?_; rintro e w5 ⟨he, hc⟩; rw [HV.out] at he; subst he; have H5 := Aside0.mk (H4.out.move hc); have HS5 := Aside0.mk (Kd.C_below HS4.out hc.below); have HSD5 := Aside0.mk (Kd.C_below HSD.out.1 hc.below); clear hc)
  clear k0 k1 k2 k3
  have k0 := H5.out.c0
  have k1 := H5.out.c1
  have k2 := H5.out.c2
  have k3 := H5.out.c3
  go_wp2_with (first | (go_at_call 20; refine (most_calls N s t A c l _ H5.out.arcs HCAP.out HZ.out).mono ?_; rintro e w6 ⟨z, sz, rfl, hc, hmz⟩; rw [← (max_unique HN.out HM.out hmz).1, HVA.out]; have H6 := Aside0.mk (H5.out.move hc); have HS6 := Aside0.mk (Kd.C_below HS5.out hc.below); have HSD6 := Aside0.mk (Kd.C_below HSD5.out hc.below); clear hc hmz) | (go_at_call 21; refine (fastiref13_Same.calls (side.length + 1) A2 c2 side A4 c4 sd true _ HS6.out HS.out.2 HSD6.out HSD.out.2 (by rw [← HEQ.out]; exact HSM.out)).mono ?_; rintro e w7 ⟨rfl, hd⟩; have HD := Aside0.mk hd; clear hd))
  go_ret
  exact ⟨rfl, H6.out.ch.trans (Ch.of_below HD.out.below []) (by simp)⟩
end

section
set_option linter.unusedVariables false
set_option linter.unusedSimpArgs false
open Go.ChangeShapes Go.WideShapes Go.ChangeAt Go.RowKit Go.Deep Go.Joins
open PFlowMaxSpec Go.Proofs.YtipfpckjgfjehaaW.PrintWords

section
variable {H : Type} {enc : TypeId × Value → H} {w : World} {base : Nat} {held : Bool}
/-- A network, by value; a nil list has no room. -/
theorem open_net2 {r : Reach} {b0 : Nat} {v : Value} {d : DataW H} {p : List MemPlace} (hv : Value.okWide Try.prog w r b0 24 v) (h : DataW.Trod enc Try.prog w base (fun _ => true) held 24 v d p) :
    ∃ N s t A c l, v = .agg #[.int .i64 N, .int .i64 s, .int .i64 t, .slice A (List.length l) c] ∧ l.length ≤ c ∧ k43.C w A l.length l ∧ (A = none → c = 0) := by
  have hv' := hv
  have h' := h
  obtain ⟨N, s, t, A, c, l, rfl, hl, hc⟩ := open_net hv h
  refine ⟨N, s, t, A, c, l, rfl, hl, hc, fun hA => ?_⟩
  subst hA
  obtain ⟨v0, v1, v2, v3, y0, y1, y2, y3, n, e, _, _, _, _, _, h3⟩ := open_agg4 Try.underlying24 (by kernel_rfl) (by kernel_rfl) hv' h'
  simp only [Value.agg.injEq, Array.mk.injEq, List.cons.injEq, and_true] at e
  obtain ⟨_, _, _, rfl⟩ := e
  rcases open_slice Try.underlying22 h3 with ⟨e, _⟩ | ⟨a, len, cap, m, n', D, Pl, e, _⟩
  · simp at e; exact e.2
  · simp at e
theorem open_u8 {r : Reach} {b0 : Nat} {v : Value} {d : DataW H} {p : List MemPlace} (hv : Value.okWide Try.prog w r b0 5 v) (h : DataW.Trod enc Try.prog w base (fun _ => true) held 5 v d p) : ∃ n : Int, v = .int .u8 n ∧ 0 ≤ n ∧ n ≤ 255 := by
  obtain ⟨n, e, _, _, hw⟩ := open_int (k := .u8) (by kernel_rfl) hv h
  refine ⟨n, e, ?_⟩
  simp [Lit.wf, IntKind.min, IntKind.max, IntKind.signed, IntKind.bits] at hw
  omega
theorem open_u16 {r : Reach} {b0 : Nat} {v : Value} {d : DataW H} {p : List MemPlace} (hv : Value.okWide Try.prog w r b0 45 v) (h : DataW.Trod enc Try.prog w base (fun _ => true) held 45 v d p) : ∃ n : Int, v = .int .u16 n ∧ 0 ≤ n ∧ n ≤ 65535 := by
  obtain ⟨n, e, _, _, hw⟩ := open_int (k := .u16) (by kernel_rfl) hv h
  refine ⟨n, e, ?_⟩
  simp [Lit.wf, IntKind.min, IntKind.max, IntKind.signed, IntKind.bits] at hw
  omega
end
end
end Go.Proofs.Ytipfpckjgfjehaa

/-
  flow.levels: the walk.
-/
import Derived.Test.YtipfpckjgfjehaaF2
import Derived.Test.YtipfpckjgfjehaaM
namespace Go.Proofs.Ytipfpckjgfjehaa
set_option linter.unusedVariables false
set_option linter.unusedSimpArgs false
open Go.RowKit PFlowMaxSpec Go.Proofs.YtipfpckjgfjehaaW.PrintWords
attribute [local go_sem] Oper.semAt_some


/-- A frame of 62 slots, some of them known. -/
structure Fr2 (a : Act) (x0 x1 x2 x4 x5 : Value) : Prop where
  size : a.tmps.size = 62
  s0 : a.tmps.getD 0 undef = x0
  s1 : a.tmps.getD 1 undef = x1
  s2 : a.tmps.getD 2 undef = x2
  s4 : a.tmps.getD 4 undef = x4
  s5 : a.tmps.getD 5 undef = x5
theorem Fr2.open {a : Act} {x0 x1 x2 x4 x5 : Value} (h : Fr2 a x0 x1 x2 x4 x5) : ∃ u : Nat → Value, a = { tmps := #[x0, x1, x2, u 3, x4, x5, u 6, u 7, u 8, u 9, u 10, u 11, u 12, u 13, u 14, u 15, u 16, u 17, u 18, u 19, u 20, u 21, u 22, u 23, u 24, u 25, u 26, u 27, u 28, u 29, u 30, u 31, u 32, u 33, u 34, u 35, u 36, u 37, u 38, u 39, u 40, u 41, u 42, u 43, u 44, u 45, u 46, u 47, u 48, u 49, u 50, u 51, u 52, u 53, u 54, u 55, u 56, u 57, u 58, u 59, u 60, u 61], defers := a.defers } := by
  obtain ⟨hs, rfl, rfl, rfl, rfl, rfl⟩ := h
  refine ⟨fun i => a.tmps.getD i undef, ?_⟩
  obtain ⟨tm, df⟩ := a
  exact congrArg (fun t => ({ tmps := t, defers := df } : Act)) (arr_open hs)

/-- A frame of 62 slots, some of them known. -/
structure Fr3 (a : Act) (x0 x1 x2 x4 x5 x6 x31 x32 x33 : Value) : Prop where
  size : a.tmps.size = 62
  s0 : a.tmps.getD 0 undef = x0
  s1 : a.tmps.getD 1 undef = x1
  s2 : a.tmps.getD 2 undef = x2
  s4 : a.tmps.getD 4 undef = x4
  s5 : a.tmps.getD 5 undef = x5
  s6 : a.tmps.getD 6 undef = x6
  s31 : a.tmps.getD 31 undef = x31
  s32 : a.tmps.getD 32 undef = x32
  s33 : a.tmps.getD 33 undef = x33
theorem Fr3.open {a : Act} {x0 x1 x2 x4 x5 x6 x31 x32 x33 : Value} (h : Fr3 a x0 x1 x2 x4 x5 x6 x31 x32 x33) : ∃ u : Nat → Value, a = { tmps := #[x0, x1, x2, u 3, x4, x5, x6, u 7, u 8, u 9, u 10, u 11, u 12, u 13, u 14, u 15, u 16, u 17, u 18, u 19, u 20, u 21, u 22, u 23, u 24, u 25, u 26, u 27, u 28, u 29, u 30, x31, x32, x33, u 34, u 35, u 36, u 37, u 38, u 39, u 40, u 41, u 42, u 43, u 44, u 45, u 46, u 47, u 48, u 49, u 50, u 51, u 52, u 53, u 54, u 55, u 56, u 57, u 58, u 59, u 60, u 61], defers := a.defers } := by
  obtain ⟨hs, rfl, rfl, rfl, rfl, rfl, rfl, rfl, rfl, rfl⟩ := h
  refine ⟨fun i => a.tmps.getD i undef, ?_⟩
  obtain ⟨tm, df⟩ := a
  exact congrArg (fun t => ({ tmps := t, defers := df } : Act)) (arr_open hs)

/-- The memory of levels, between two levels. -/
structure LSt (xb : Nat) (w W : World) (p1 : Nat) (lev : List Int) (d : Int) (dp : Nat) (v4 : Value) (now : List Int) (ds : List Nat) : Prop where
  ch : Ch [] w W
  box : W.heap[p1]? = some (.cells #[.pointer (some ⟨xb, 0, none⟩)] 53 (0, 0))
  lvb : W.heap[p1 + 1]? = some (.cells (intsOf lev) 49 (0, 0))
  dpb : W.heap[dp]? = some (.cells #[.int .i64 d] 3 (0, 0))
  row : Row W w.heap.size v4 now
  rne : v4.ownBlock ≠ some dp
  hp : w.heap.size ≤ p1
  hdp : w.heap.size ≤ dp
  nd : ds.Nodup
  dd : ∀ D, D ∈ ds → W.heap[D]? = some (.deferred (some [])) ∧ w.heap.size ≤ D
/-- .. within a level: next and the vertices found so far. -/
structure LSt3 (xb : Nat) (w W : World) (p1 : Nat) (st : List Int × List Int) (d : Int) (dp : Nat) (v4 : Value) (now : List Int) (ds : List Nat) (nx : Nat) (vn : Value) : Prop where
  s : LSt xb w W p1 st.1 d dp v4 now ds
  nxb : W.heap[nx]? = some (.cells #[vn] 25 (0, 0))
  hnx : w.heap.size ≤ nx
  rown : Row W w.heap.size vn st.2
  n1 : vn.ownBlock ≠ some dp
  n2 : ∀ b, v4.ownBlock = some b → vn.ownBlock ≠ some b

section
variable {xb : Nat} {w W W' : World} {p1 : Nat} {lev : List Int} {st : List Int × List Int} {d : Int} {dp : Nat} {v4 : Value} {now : List Int} {ds : List Nat} {nx : Nat} {vn : Value}
theorem LSt.move (h : LSt xb w W p1 lev d dp v4 now ds) (hc : Ch [] w W') (hk : KeepBl W W') : LSt xb w W' p1 lev d dp v4 now ds :=
  ⟨hc, hk _ _ h.box (by simp), hk _ _ h.lvb (by simp), hk _ _ h.dpb (by simp), h.row.keepBl hk, h.rne, h.hp, h.hdp, h.nd, fun D hD => ⟨hk _ _ (h.dd D hD).1 (by simp), (h.dd D hD).2⟩⟩
theorem LSt3.move (h : LSt3 xb w W p1 st d dp v4 now ds nx vn) (hc : Ch [] w W') (hk : KeepBl W W') : LSt3 xb w W' p1 st d dp v4 now ds nx vn :=
  ⟨h.s.move hc hk, hk _ _ h.nxb (by simp), h.hnx, h.rown.keepBl hk, h.n1, h.n2⟩
theorem LSt.alloc (h : LSt xb w W p1 lev d dp v4 now ds) (o : Obj) : LSt xb w (W.alloc o) p1 lev d dp v4 now ds := h.move (h.ch.alloc o) (KeepBl.alloc W o)
theorem LSt3.alloc (h : LSt3 xb w W p1 st d dp v4 now ds nx vn) (o : Obj) : LSt3 xb w (W.alloc o) p1 st d dp v4 now ds nx vn := h.move (h.s.ch.alloc o) (KeepBl.alloc W o)
theorem LSt3.putObj (h : LSt3 xb w W p1 st d dp v4 now ds nx vn) {l : Nat} {r : Loop} (hl : W.heap[l]? = some (.loop r)) (hw : w.heap.size ≤ l) (o : Obj) : LSt3 xb w (W.putObj l o) p1 st d dp v4 now ds nx vn :=
  h.move (h.s.ch.putObj l o (.inr hw)) (KeepBl.putObj hl o)
theorem LSt3.drewN (h : LSt3 xb w W p1 st d dp v4 now ds nx vn) (n : Nat) : LSt3 xb w (W.drewN n) p1 st d dp v4 now ds nx vn := h.move (h.s.ch.drewN n) (KeepBl.drewN W n)
/-- A vertex gets its level. -/
theorem LSt3.setLev (h : LSt3 xb w W p1 st d dp v4 now ds nx vn) (i : Nat) (x : Int) : LSt3 xb w (W.setCell ⟨p1 + 1, i, none⟩ (.int .i64 x)) p1 (st.1.set i x, st.2) d dp v4 now ds nx vn := by
  have hs := h.s
  have hne : ∀ {b : Nat} {o : Obj}, W.heap[b]? = some o → o ≠ .cells (intsOf st.1) 49 (0, 0) → (W.setCell ⟨p1 + 1, i, none⟩ (.int .i64 x)).heap[b]? = some o := fun hb hn => blk_other hb _ _ (blk_ne hb hs.lvb hn)
  refine ⟨⟨hs.ch.setCell _ _ (.inr ?_), hne hs.box (by simp), ?_, hne hs.dpb (by simp), hs.row.set _ _ ?_, hs.rne, hs.hp, hs.hdp, hs.nd, fun D hD => ⟨hne (hs.dd D hD).1 (by simp), (hs.dd D hD).2⟩⟩, hne h.nxb (by simp), h.hnx, h.rown.set _ _ ?_, h.n1, h.n2⟩
  · have := hs.hp; show w.heap.size ≤ p1 + 1; omega
  · rw [← intsOf_set]; exact blk_set hs.lvb i _
  · exact hs.row.ne hs.lvb (by simp)
  · exact h.rown.ne hs.lvb (by simp)
/-- A vertex has been appended, and the slice stored back. -/
theorem LSt3.app (h : LSt3 xb w W p1 st d dp v4 now ds nx vn) {v' : Value} {y : Int} {W1 : World} (hr : Row W1 w.heap.size v' (st.2 ++ [y])) (hg : W.grownBy W1 vn.ownBlock) (hat : v'.ownBlock = vn.ownBlock ∨ ∃ b, v'.ownBlock = some b ∧ W.heap.size ≤ b) :
    LSt3 xb w (W1.setCell ⟨nx, 0, none⟩ v') p1 (st.1, st.2 ++ [y]) d dp v4 now ds nx v' := by
  have hs := h.s
  have hne : ∀ {b : Nat} {o : Obj}, W.heap[b]? = some o → (∀ cs, o ≠ .cells cs 3 (0, 0)) → W1.heap[b]? = some o := fun hb hn => blk_grown hg hb (h.rown.ne hb hn)
  have hdp : W1.heap[dp]? = some (.cells #[.int .i64 d] 3 (0, 0)) := blk_grown hg hs.dpb h.n1
  have hnx : W1.heap[nx]? = some (.cells #[vn] 25 (0, 0)) := hne h.nxb (by simp)
  have hset : ∀ {b : Nat} {o : Obj}, W1.heap[b]? = some o → o ≠ .cells #[vn] 25 (0, 0) → (W1.setCell ⟨nx, 0, none⟩ v').heap[b]? = some o := fun hb hn => blk_other hb _ _ (blk_ne hb hnx hn)
  have hold : ∀ b, W.heap.size ≤ b → ∀ o, W.heap[b]? ≠ some o := fun b hb o he => by have := blk_lt he; omega
  have hch1 : Ch [] w W1 := World.grownBy.ch hs.ch hg (fun b hb => .inr (h.rown.lt b hb).1)
  have hrow : Row W1 w.heap.size v4 now := hs.row.grown hg (fun b hb => h.n2 b hb)
  refine ⟨⟨hch1.setCell _ _ (.inr h.hnx), hset (hne hs.box (by simp)) (by simp), hset (hne hs.lvb (by simp)) (by simp), hset hdp (by simp), hrow.set _ _ (hrow.ne hnx (by simp)), hs.rne, hs.hp, hs.hdp, hs.nd, fun D hD => ⟨hset (hne (hs.dd D hD).1 (by simp)) (by simp), (hs.dd D hD).2⟩⟩, ?_, h.hnx, hr.set _ _ (hr.ne hnx (by simp)), ?_, ?_⟩
  · have := blk_set hnx 0 v'; simpa using this
  · rcases hat with e | ⟨b, e, hb⟩
    · rw [e]; exact h.n1
    · rw [e]; intro e'; cases e'; exact hold _ hb _ hs.dpb
  · intro b hb
    rcases hat with e | ⟨b', e, hb'⟩
    · rw [e]; exact h.n2 b hb
    · rw [e]; intro e'; cases e'
      have := (hs.row.lt b hb).2
      omega
/-- What else lies on through it. -/
theorem LSt3.appFar (h : LSt3 xb w W p1 st d dp v4 now ds nx vn) {v' : Value} {W1 : World} (hg : W.grownBy W1 vn.ownBlock) {b : Nat} {o : Obj} (hb : W.heap[b]? = some o) (h1 : ∀ cs, o ≠ .cells cs 3 (0, 0)) (h2 : o ≠ .cells #[vn] 25 (0, 0)) :
    (W1.setCell ⟨nx, 0, none⟩ v').heap[b]? = some o :=
  blk_other (blk_grown hg hb (h.rown.ne hb h1)) _ _ (blk_ne hb h.nxb h2)
theorem LSt3.levFar (h : LSt3 xb w W p1 st d dp v4 now ds nx vn) (i : Nat) (x : Value) {b : Nat} {o : Obj} (hb : W.heap[b]? = some o) (h1 : o ≠ .cells (intsOf st.1) 49 (0, 0)) : (W.setCell ⟨p1 + 1, i, none⟩ x).heap[b]? = some o :=
  blk_other hb _ _ (blk_ne hb h.s.lvb h1)
theorem bfsArc_new {l : List S43} {d : Int} {st : List Int × List Int} {i : Int} (h : st.1.getD (toV l i).toNat 0 < 0) : bfsArc l d st i = (st.1.set (toV l i).toNat d, st.2 ++ [toV l i]) := by
  unfold bfsArc; rw [if_pos h]
theorem bfsArc_old {l : List S43} {d : Int} {st : List Int × List Int} {i : Int} (h : ¬ st.1.getD (toV l i).toNat 0 < 0) : bfsArc l d st i = st := by
  unfold bfsArc; rw [if_neg h]
end

/-- What holds when so many of a vertex's arcs have been seen. -/
structure LJ (E : Env) (much : List Int) (w : World) (p1 : Nat) (st0 : List Int × List Int) (d : Int) (dp : Nat) (v4 : Value) (now : List Int) (ds : List Nat) (nx l D bx : Nat) (v : Int) (tm : Array Value) (asg bo : Code) (k : Nat) (vn : Value) (r : Loop) (W : World) : Prop where
  s : LSt3 E.xb w W p1 (bfsTake E.l much d st0 (E.out v) k) d dp v4 now ds nx vn
  hl : W.heap[l]? = some (.loop r)
  hr : RecOk r tm #[40] asg bo
  rdy : r.state = .ready
  pen : r.pending = none
  hD : W.heap[D]? = some (.deferred (some []))
  hbx : W.heap[bx]? = some (.cells #[.pointer (some ⟨E.xb, 0, none⟩)] 53 (0, 0))

theorem info3 : (Try.prog.info? 3).map (fun i => (i.zero, i.size, i.bytes)) = some (some (.int .i64 0), 1, 8) := PFlowMaxSpec.info3

set_option maxHeartbeats 1000000 in
set_option maxRecDepth 100000 in
theorem levels_calls (E : Env) (ok : E.Ok) (much : List Int) (hm : much.length = 1024) (w : World) (hx : w.heap[E.xb]? = some (E.block much)) (hd : ∀ w', Ch [] w w' → E.Data w') :
    Calls Try.prog 28 #[.pointer (some ⟨E.xb, 0, none⟩)] w fun e w' => e = .returned (.agg (intsOf (bfs E.l much E.out 65 (lev0 E.s) [E.s] 1))) ∧ Ch [] w w' := by
  have HD := Aside0.mk hd
  have HX := Aside0.mk hx
  have HOK := Aside0.mk ok
  have HM := Aside0.mk hm
  have hs0 := ok.hs.1
  have hs1 : E.s < 64 := by have := ok.hs.2; have := ok.hN.2; omega
  clear hd hx ok hm
  refine calls_of_wp_marks Try.func28 rfl ?_
  simp only [Try.ntmps28, List.size_toArray, List.length_cons, List.length_nil, Nat.reduceAdd, Nat.reduceSub, Array.replicate_succ, Array.replicate_zero, List.push_toArray, List.append_toArray, List.nil_append, List.cons_append]
  go_wp2
  refine wp_abs (fun W => Ch [] w W ∧ W.heap[w.heap.size]? = some (.cells #[.pointer (some ⟨E.xb, 0, none⟩)] 53 (0, 0)) ∧ W.heap[w.heap.size + 1]? = some (.cells (intsOf (List.replicate 64 0)) 49 (0, 0))) ⟨((Ch.refl _ _).alloc _).alloc _, blk_alloc (blk_new _ _) _, ?_⟩ ?_
  · have := blk_new (w.alloc (.cells #[.pointer (some ⟨E.xb, 0, none⟩)] 53)) (.cells (intsOf (List.replicate 64 0)) 49)
    rw [World.size_alloc] at this
    exact this
  intro W ⟨hch, hbox, hlv⟩
  have HCH := Aside0.mk hch
  have HBOX := Aside0.mk hbox
  have HLV := Aside0.mk hlv
  clear hch hbox hlv
  have HP1 : Aside0 (w.heap.size ≤ w.heap.size) := ⟨Nat.le_refl _⟩
  obtain ⟨p1, hp1⟩ : ∃ p1, p1 = w.heap.size := ⟨_, rfl⟩
  rw [← hp1] at HBOX HLV ⊢
  have HPE := Aside0.mk hp1
  clear hp1 HP1
  go_step3
  go_wp2
  go_loopw [11] (fun i wr => ∃ k : Nat, k ≤ 64 ∧ i = .int .i64 k ∧ Aside0 (Ch [] w wr ∧ wr.heap[p1]? = some (.cells #[.pointer (some ⟨E.xb, 0, none⟩)] 53 (0, 0)) ∧
    ∃ lv : List Int, lv.length = 64 ∧ (∀ j, j < k → lv.getD j 0 = -1) ∧ wr.heap[p1 + 1]? = some (.cells (intsOf lv) 49 (0, 0)))) (fun i wr => 64 - (intOf i).toNat)
  case atStart => exact ⟨0, by omega, rfl, ⟨⟨HCH.out, HBOX.out, _, by simp, fun j hj => by omega, HLV.out⟩⟩⟩
  case round =>
    obtain ⟨k, hk, rfl, hrel⟩ := hrel
    obtain ⟨hch, hbox, lv, hlen, hall, hlv⟩ := hrel.out
    by_cases hlt : k < 64
    · have c1 := (blk_cell hlv k).trans (intsOf_get lv k (by omega))
      have f1 := blk_free hlv k
      have H1 := Aside0.mk (And.intro hch (And.intro hbox (And.intro hlen (And.intro hall hlv))))
      clear hch hbox hlen hall hlv hrel
      go_wp2
      go_roundw
      case rel =>
        obtain ⟨hch, hbox, hlen, hall, hlv⟩ := H1.out
        refine ⟨k + 1, by omega, by go_num, ⟨⟨hch.setCell _ _ (.inr ?_), blk_other hbox _ _ (by simp), lv.set k (-1), by simp [hlen], ?_, ?_⟩⟩⟩
        · have := HPE.out; show w.heap.size ≤ p1 + 1; omega
        · intro j hj
          by_cases hjk : j = k
          · subst hjk; simp [List.getD_eq_getElem?_getD, hlen, hlt]
          · have := hall j (by omega)
            simpa [List.getD_eq_getElem?_getD, List.getElem?_set_ne (Ne.symm hjk)] using this
        · rw [← intsOf_set]; exact blk_set hlv k _
      case measure => simp [intOf]; omega
    · have hlv64 : lv = List.replicate 64 (-1) := by
        refine List.eq_replicate_iff.2 ⟨hlen, fun b hb => ?_⟩
        obtain ⟨j, hj, rfl⟩ := List.mem_iff_getElem.1 hb
        have := hall j (by omega)
        simpa [List.getD_eq_getElem?_getD, List.getElem?_eq_getElem hj] using this
      have hxw := hch.at HX.out (by simp)
      have cx1 : wr.cell? ⟨E.xb, 1, none⟩ = some (.int .i64 E.s) := (blk_cell hxw 1).trans rest_1
      have cb := blk_cell hbox 0
      simp only [List.getElem?_toArray, List.getElem?_cons_zero] at cb
      have c1 := (blk_cell hlv E.s.toNat).trans (intsOf_get lv E.s.toNat (by omega))
      have f1 := blk_free hlv E.s.toNat
      have H1 := Aside0.mk (And.intro hch (And.intro hbox (And.intro hlen (And.intro hlv64 hlv))))
      have hcx2 : (wr.setCell ⟨p1 + 1, E.s.toNat, none⟩ (.int .i64 0)).cell? ⟨E.xb, 1, none⟩ = some (.int .i64 E.s) := (blk_cell (blk_other hxw _ _ (blk_ne hxw hlv (by simp [Env.block]))) 1).trans rest_1
      clear hch hbox hlen hall hlv hrel hxw hlv64
      go_wp2
      have HB2 : Aside0 (wr.heap[p1 + 1]? = some (.cells (intsOf (List.replicate 64 (-1))) 49 (0, 0))) := ⟨by obtain ⟨_, _, _, e, h⟩ := H1.out; rw [← e]; exact h⟩
      refine wp_abs (fun W2 => Ch [] w W2 ∧ W2.heap[p1]? = some (.cells #[.pointer (some ⟨E.xb, 0, none⟩)] 53 (0, 0)) ∧ W2.heap[p1 + 1]? = some (.cells (intsOf (lev0 E.s)) 49 (0, 0)) ∧ Row W2 w.heap.size (.slice (some ⟨wr.heap.size, 0, none⟩) 1 1) [E.s]) ?_ ?_
      · obtain ⟨hch, hbox, _⟩ := H1.out
        have hpe := HPE.out
        refine ⟨(hch.setCell _ _ (.inr ?_)).alloc _, blk_alloc (blk_other hbox _ _ (by simp)) _, blk_alloc ?_ _, ⟨by simp, .inr ⟨_, 1, #[.int .i64 E.s], rfl, ?_, ?_, by simp, by simp [maxLen], by simp, by simp⟩⟩⟩
        · show w.heap.size ≤ p1 + 1; omega
        · unfold lev0; rw [← intsOf_set]; exact blk_set HB2.out _ _
        · exact hch.size
        · have := blk_new (wr.setCell ⟨p1 + 1, E.s.toNat, none⟩ (.int .i64 0)) (.cells #[.int .i64 E.s] 3)
          rwa [World.size_setCell] at this
      intro W2 hW2
      have HW2 := Aside0.mk hW2
      clear hW2 H1 HB2 HBOX HLV HCH c1 f1 cb cx1 hcx2
      go_step3
      go_wp2
      have hrow1 := HW2.out.2.2.2
      refine wp_abs (fun W3 => LSt E.xb w W3 p1 (lev0 E.s) 1 W2.heap.size (.slice (some ⟨wr.heap.size, 0, none⟩) 1 1) [E.s] []) ?_ ?_
      · obtain ⟨h1, h2, h3, h4⟩ := HW2.out
        exact ⟨h1.alloc _, blk_alloc h2 _, blk_alloc h3 _, blk_new _ _, h4.keepBl (KeepBl.alloc _ _), by have := (h4.lt _ rfl).2; simp only [Value.ownBlock, ne_eq, Option.some.injEq] at this ⊢; omega, by have := HPE.out; omega, h1.size, List.nodup_nil, by simp⟩
      intro W3 hW3
      have HLS := Aside0.mk hW3
      clear hW3 HW2 hrow1
      generalize hv4 : Value.slice (some ⟨wr.heap.size, 0, none⟩) 1 1 = v4 at HLS ⊢
      generalize hdp : W2.heap.size = dp at HLS ⊢
      clear hv4 hdp
      generalize hres : bfs E.l much E.out 65 (lev0 E.s) [E.s] 1 = res
      have HRES := Aside0.mk hres
      clear hres
      refine wp_loop_ghost_k (fun n a W => ∃ (v4 : Value) (dp : Nat) (ds : List Nat) (lev now : List Int) (d : Int), Fr2 a (.pointer (some ⟨E.xb, 0, none⟩)) (.pointer (some ⟨p1, 0, none⟩)) (.pointer (some ⟨p1 + 1, 0, none⟩)) v4 (.pointer (some ⟨dp, 0, none⟩)) ∧ a.defers = ds.map markOf ∧
        Aside0 (LSt E.xb w W p1 lev d dp v4 now ds ∧ lev.length = 64 ∧ (∀ v ∈ now, 0 ≤ v ∧ v < E.N) ∧ now.length ≤ 64 ∧ negs lev < n ∧ 1 ≤ d ∧ d + n = 66 ∧ bfs E.l much E.out n lev now d = res)) 65 ?h0 ?hround
      case h0 => 
        refine ⟨v4, dp, [], lev0 E.s, [E.s], 1, ⟨rfl, rfl, rfl, rfl, rfl, rfl⟩, rfl, ⟨⟨HLS.out, by simp [lev0], ?_, by simp, ?_, by omega, by omega, HRES.out⟩⟩⟩
        · intro v hv
          rw [List.mem_singleton] at hv
          subst hv
          exact HOK.out.hs
        · have := List.length_filter_le (fun x => decide (x < 0)) (lev0 E.s)
          have e : (lev0 E.s).length = 64 := by simp [lev0]
          simp only [negs]
          omega
      case hround =>
        rintro n a W ⟨v4, dp, ds, lev, now, d, hF, hD, hI⟩ J K hJ hK
        obtain ⟨u, ha⟩ := hF.open
        rw [ha, hD]
        clear ha hD hF
        obtain ⟨hls, hlen, hnow, hnl, hneg, hd1, hdn, hbfs⟩ := hI.out
        have HLS := Aside0.mk hls
        have HN := Aside0.mk (And.intro hlen (And.intro hnow (And.intro hneg hbfs)))
        obtain ⟨A4, c4, hv4⟩ := hls.row.val
        clear hls hlen hnow hneg hbfs hI
        subst hv4
        go_wp2
        refine wp_abs (fun W3 => LSt3 E.xb w W3 p1 (lev, []) d dp (.slice A4 now.length c4) now ds W.heap.size (.slice none 0 0)) ⟨HLS.out.alloc _, blk_new _ _, HLS.out.ch.size, Row.nil _ _, by simp [Value.ownBlock], fun b _ => by simp [Value.ownBlock]⟩ ?_
        intro W3 hW3
        have HL3 := Aside0.mk hW3
        clear hW3 HLS
        generalize hnx : W.heap.size = nx at HL3 ⊢
        clear hnx W
        refine wp_loop_ghost_k (fun m a W => ∃ (j : Nat) (ds : List Nat) (vn : Value), Fr3 a (.pointer (some ⟨E.xb, 0, none⟩)) (.pointer (some ⟨p1, 0, none⟩)) (.pointer (some ⟨p1 + 1, 0, none⟩)) (.slice A4 now.length c4) (.pointer (some ⟨dp, 0, none⟩)) (.pointer (some ⟨nx, 0, none⟩)) (.slice A4 now.length c4) (.int .i64 now.length) (.int .i64 j) ∧ a.defers = ds.map markOf ∧
          Aside0 (LSt3 E.xb w W p1 (bfsNow E.l much E.out d lev now j) d dp (.slice A4 now.length c4) now ds nx vn ∧ j ≤ now.length ∧ m = now.length - j)) now.length ?h0 ?hround
        case h0 => exact ⟨0, ds, .slice none 0 0, ⟨rfl, rfl, rfl, rfl, rfl, rfl, rfl, rfl, rfl, rfl⟩, rfl, ⟨⟨HL3.out, Nat.zero_le _, rfl⟩⟩⟩
        case hround =>
          clear HL3 u
          rintro m a W ⟨j, ds, vn, hF, hD, hI⟩ J3 K3 hJ3 hK3
          obtain ⟨u, ha⟩ := hF.open
          rw [ha, hD]
          clear ha hD hF
          obtain ⟨hl3, hj, hmj⟩ := hI.out
          have HL3 := Aside0.mk hl3
          have HMJ := Aside0.mk hmj
          clear hI hmj hl3
          by_cases hlt : j < now.length
          · obtain ⟨ad, c', hA, hcell⟩ := HL3.out.s.row.at j hlt
            obtain ⟨hA, _⟩ : A4 = some ad ∧ True := ⟨by injection hA, trivial⟩
            subst hA
            have hv := HN.out.2.1 (now.getD j 0) (by rw [List.getD_eq_getElem?_getD, List.getElem?_eq_getElem hlt]; exact List.getElem_mem _)
            have cb := blk_cell HL3.out.s.box 0
            simp only [List.getElem?_toArray, List.getElem?_cons_zero] at cb
            have hN64 := HOK.out.hN.2
            generalize hvj : now.getD j 0 = v at hcell hv
            have HVJ := Aside0.mk hvj
            obtain ⟨hv0, hvN⟩ := hv
            clear hvj
            go_wp2_with (go_at_call 30; refine (open_calls _ _ _).mono ?_; rintro e w' ⟨rfl, rfl⟩)
            refine wp_abs (fun W3 => LSt3 E.xb w W3 p1 (bfsNow E.l much E.out d lev now j) d dp (.slice (some ad) now.length c4) now ds nx vn ∧ W3.heap[W.heap.size]? = some (.cells #[.pointer (some ⟨E.xb, 0, none⟩)] 53 (0, 0)) ∧ W3.heap[W.heap.size + 1]? = some (.cells #[.int .i64 v] 3 (0, 0)))
              ⟨(HL3.out.alloc _).alloc _, blk_alloc (blk_new _ _) _, by have := blk_new (W.alloc (.cells #[.pointer (some ⟨E.xb, 0, none⟩)] 53)) (.cells #[.int .i64 v] 3); rwa [World.size_alloc] at this⟩ ?_
            intro W3 ⟨h31, h32, h33⟩
            generalize hbxe : W.heap.size = bx at h32 h33 ⊢
            clear hbxe hcell cb HL3 W
            refine range_func2 rfl (enters_of Try.func35 (by kernel_rfl) rfl) ?_
            intro asg bo tm has hbo htm rec hrec hst hpe
            have HAS := Aside0.mk has
            have HBO := Aside0.mk hbo
            have HTM := Aside0.mk htm
            clear has hbo htm
            have hszw := h31.s.ch.size
            have hDds : W3.heap.size ∉ ds := fun hin => by have := blk_lt (h31.s.dd _ hin).1; omega
            obtain ⟨Av, cv, hov, hrows⟩ := (HD.out W3 h31.s.ch).rows v hv0 hvN
            refine calls_abs (fun W4 => W4.heap[bx + 1]? = some (.cells #[.int .i64 v] 3 (0, 0)) ∧ LJ E much w p1 (bfsNow E.l much E.out d lev now j) d dp (.slice (some ad) now.length c4) now ds nx (W3.heap.size + 1) W3.heap.size bx v tm asg bo 0 vn rec W4)
              ⟨blk_alloc (blk_alloc h33 _) _, (h31.alloc _).alloc _, by have := blk_new (W3.alloc (.deferred (some []))) (.loop rec); rwa [World.size_alloc] at this, hrec, hst, hpe, blk_alloc (blk_new _ _) _, blk_alloc (blk_alloc h32 _) _⟩ ?_
            intro W4 ⟨hbv4, hJ4⟩
            generalize W3.heap.size = D at hJ4 hszw hDds ⊢
            clear h31 h32 h33 hrows W3
            have hxb4 := hJ4.s.s.ch.at HX.out (by simp)
            refine (callsIn_wide.1 (open1_calls (D + 1) bx (bx + 1) E.xb cv v hv0 (by omega) Av (E.out v) (fun k W' => ∃ vn r, LJ E much w p1 (bfsNow E.l much E.out d lev now j) d dp (.slice (some ad) now.length c4) now ds nx (D + 1) D bx v tm asg bo k vn r W') (fun _ => False) W4
              (by have := (HOK.out.hout v hv0 hvN).1; omega) (blk_cell hJ4.hbx 0) (blk_cell hbv4 0) ((blk_cell hxb4 _).trans ((rest_out HM.out _).trans hov)) ?hdr ?hst)).mono ?hpost
            case hdr => exact fun n => ⟨vn, rec, hJ4.s.drewN n, hJ4.hl, hJ4.hr, hJ4.rdy, hJ4.pen, hJ4.hD, hJ4.hbx⟩
            case hst =>
              rintro k W ⟨vn, r, hJk⟩ hk
              obtain ⟨Av', cv', hov', hrows⟩ := (HD.out W hJk.s.s.ch).rows v hv0 hvN
              obtain ⟨rfl, rfl⟩ : Av' = Av ∧ cv' = cv := by rw [hov] at hov'; injection hov' with e; injection e with e1 e2 e3; exact ⟨e1.symm, e3.symm⟩
              obtain ⟨adv, hav, hcv⟩ := hrows k hk
              have hmem : (E.out v).getD k 0 ∈ E.out v := by rw [List.getD_eq_getElem?_getD, List.getElem?_eq_getElem hk]; exact List.getElem_mem _
              obtain ⟨hi0, hi1, ht0, ht1⟩ := (HOK.out.hout v hv0 hvN).2 _ hmem
              have hl512 := HOK.out.hl
              have hxbW := hJk.s.s.ch.at HX.out (by simp)
              refine ⟨adv, hav, blk_cell hJk.hbx 0, hcv, hi0, by omega, much.getD ((E.out v).getD k 0).toNat 0, (blk_cell hxbW _).trans (rest_much _ (by rw [HM.out]; omega)), ?_, fun hneg => ⟨vn, r, by rw [bfsTake_shut hk hneg]; exact hJk.s, hJk.hl, hJk.hr, hJk.rdy, hJk.pen, hJk.hD, hJk.hbx⟩⟩
              intro hpos n
              have hbf := bfsTake_open (l := E.l) (d := d) (st := bfsNow E.l much E.out d lev now j) hk hpos
              generalize (E.out v).getD k 0 = i at hi0 hi1 ht0 ht1 hpos hbf hcv ⊢
              refine yield_one hJk.hl hJk.hr hJk.rdy HAS.out HBO.out HTM.out ?_
              simp only [List.setIfInBounds_toArray, List.set_cons_succ, List.set_cons_zero]
              gi_wp2
              refine ⟨hJk.hl, fun rb hrb => ?_⟩
              have hDn : D ≠ D + 1 := by omega
              refine wpIn_abs (fun W' => LSt3 E.xb w W' p1 (bfsTake E.l much d (bfsNow E.l much E.out d lev now j) (E.out v) k) d dp (.slice (some ad) now.length c4) now ds nx vn ∧ W'.heap[D + 1]? = some (.loop rb) ∧ W'.heap[D]? = some (.deferred (some [])) ∧ W'.heap[bx]? = some (.cells #[.pointer (some ⟨E.xb, 0, none⟩)] 53 (0, 0)))
                ⟨hJk.s.putObj hJk.hl (by omega) _, World.putObj_heap_same (blk_lt hJk.hl), (KeepBl.putObj hJk.hl _) _ _ hJk.hD (by simp), (KeepBl.putObj hJk.hl _) _ _ hJk.hbx (by simp)⟩ ?_
              have hLv : Lv E.N (negs lev) (bfsTake E.l much d (bfsNow E.l much E.out d lev now j) (E.out v) k) :=
                Lv.take (Lv.now ⟨HN.out.1, by simp, by simp⟩ hN64 (by omega) HN.out.2.1 (fun v h0 h1 i hi => ⟨((HOK.out.hout v h0 h1).2 i hi).2.2.1, ((HOK.out.hout v h0 h1).2 i hi).2.2.2⟩) j) hN64 (by omega) _ _ (fun i hi => ⟨((HOK.out.hout v hv0 hvN).2 i hi).2.2.1, ((HOK.out.hout v hv0 hvN).2 i hi).2.2.2⟩)
              clear hJk hxbW hrows hcv hav r hmem
              generalize bfsTake E.l much d (bfsNow E.l much E.out d lev now j) (E.out v) k = st at hbf hLv ⊢
              intro W' ⟨hS, hl', hD', hbx'⟩
              have hdat := HD.out W' hS.s.ch
              have hx' := hS.s.ch.at HX.out (by simp)
              have hs3 : W'.cell? ⟨E.xb, 3, none⟩ = some (.slice E.A E.l.length E.c) := (blk_cell hx' 3).trans rest_3
              have harcs := Aside0.mk hdat.arcs
              have cb := blk_cell hS.s.box 0
              have cd := blk_cell hS.s.dpb 0
              have cn := blk_cell hS.nxb 0
              simp only [List.getElem?_toArray, List.getElem?_cons_zero] at cb cd cn
              have clv := (blk_cell hS.s.lvb (toV E.l i).toNat).trans (intsOf_get _ _ (by rw [hLv.len]; omega))
              have flv := blk_free hS.s.lvb (toV E.l i).toNat
              have hne : Aside0 (dp ≠ p1 + 1 ∧ nx ≠ p1 + 1) := ⟨blk_ne hS.s.dpb hS.s.lvb (by simp), blk_ne hS.nxb hS.s.lvb (by simp)⟩
              have hS1 := Aside0.mk (hS.setLev (toV E.l i).toNat d)
              have HS := Aside0.mk hS
              have HBF := Aside0.mk hbf
              have HRB := Aside0.mk hrb
              have HLV := Aside0.mk hLv
              have H5 := Aside0.mk (And.intro hl' (And.intro hD' hbx'))
              have hsz : w.heap.size ≤ W'.heap.size := hS.s.ch.size
              have ht64 : toV E.l i < 64 := by omega
              clear hdat hx' hS hbf hrb hl' hD' hbx' hLv
              generalize hlx : st.1.getD (toV E.l i).toNat 0 = x at clv
              have HLX := Aside0.mk hlx
              clear hlx
              gi_wp2
              refine ⟨trivial, (fun h => by cases h), (calls_round (to_calls _ _ _ _ _ _ hi0 hi1 (by omega) hs3 harcs.out)).mono ?_⟩
              rintro e w' ⟨rfl, rfl⟩
              by_cases hneg : x < 0
              · have fdp := blk_free HS.out.s.dpb 0
                have hdp1 : dp ≠ p1 + 1 := hne.out.1
                have hnx1 : nx ≠ p1 + 1 := hne.out.2
                have hst2 : st.2.length ≤ 100000 := by have := HLV.out.sum; have := List.length_filter_le (fun x => decide (x < 0)) lev; have := HN.out.1; simp only [negs] at *; omega
                gi_wp2_with (gi_at_builtin; refine in_append_row (.tmp 51) (.tmp 53) 25 vn st.2 (toV E.l i) w.heap.size _ _ rfl rfl Try.underlying25 info3 rfl rfl ?hgw hS1.out.rown ?hb hst2 ?_; (case hgw => simp); (case hb => (simp; exact hsz)); intro v' w1 hr hg hat; obtain ⟨A', c', hv'⟩ := hr.val; rw [List.length_append, List.length_singleton] at hv'; subst hv'; have hb1 := blk_grown hg hS1.out.nxb (hS1.out.rown.ne hS1.out.nxb (by simp)); have cn1 := blk_cell hb1 0; simp only [List.getElem?_toArray, List.getElem?_cons_zero] at cn1; have fn1 := blk_free hb1 0; have HR := Aside0.mk (And.intro hr (And.intro hg hat)); clear hr hg hat hb1)
                obtain ⟨hr, hg, hat⟩ := HR.out
                obtain ⟨hl', hD', hbx'⟩ := H5.out
                have hlt' : st.1.getD (toV E.l i).toNat 0 < 0 := by rw [HLX.out]; exact hneg
                have far : ∀ {b : Nat} {o : Obj}, W'.heap[b]? = some o → (∀ cs, o ≠ .cells cs 3 (0, 0)) → (∀ cs, o ≠ .cells cs 25 (0, 0)) → (∀ cs, o ≠ .cells cs 49 (0, 0)) → (w1.setCell ⟨nx, 0, none⟩ (.slice A' (st.2.length + 1) c')).heap[b]? = some o :=
                  fun hb n1 n2 n3 => hS1.out.appFar hg (HS.out.levFar _ _ hb (n3 _)) n1 (n2 _)
                refine round_on2 (far hl' (by simp) (by simp) (by simp)) HRB.out (fun r hr1 hr2 hr3 => ⟨rfl, .slice A' (st.2.length + 1) c', r, ?_⟩)
                refine ⟨?_, World.putObj_heap_same (blk_lt (far hl' (by simp) (by simp) (by simp))), hr1, hr2, hr3, (World.putObj_heap_other (by omega)).trans (far hD' (by simp) (by simp) (by simp)), ?_⟩
                · rw [HBF.out, bfsArc_new hlt']
                  exact (hS1.out.app hr hg hat).putObj (far hl' (by simp) (by simp) (by simp)) (by omega) _
                · exact (KeepBl.putObj (far hl' (by simp) (by simp) (by simp)) _) _ _ (far hbx' (by simp) (by simp) (by simp)) (by simp)
              · gi_wp2
                obtain ⟨hl', hD', hbx'⟩ := H5.out
                have hge' : ¬ st.1.getD (toV E.l i).toNat 0 < 0 := by rw [HLX.out]; omega
                refine round_on2 hl' HRB.out (fun r hr1 hr2 hr3 => ⟨rfl, vn, r, ?_⟩)
                refine ⟨?_, World.putObj_heap_same (blk_lt hl'), hr1, hr2, hr3, (World.putObj_heap_other (by omega)).trans hD', (KeepBl.putObj hl' _) _ _ hbx' (by simp)⟩
                rw [HBF.out, bfsArc_old hge']
                exact HS.out.putObj hl' (by omega) _
            case hpost =>
              rintro e W' ⟨hv, ⟨vn, r, hJ⟩ | hf⟩
              · refine ⟨hv, r, hJ.hl, by rw [hJ.rdy]; simp, ?_⟩
                rw [hJ.pen]
                simp only [jumpPost]
                have HL5 := Aside0.mk (hJ.s.putObj hJ.hl (by omega) (.loop { r with state := .exhausted }))
                have hD5 : Aside0 ((W'.putObj (D + 1) (.loop { r with state := .exhausted })).heap[D]? = some (.deferred (some []))) := ⟨(World.putObj_heap_other (by omega)).trans hJ.hD⟩
                rw [hJ.pen] at HL5 hD5
                rw [bfsTake_all, ← HVJ.out, ← bfsNow_succ hlt] at HL5
                generalize W'.putObj (D + 1) _ = W5 at HL5 hD5 ⊢
                clear hJ hv hov hbv4 hxb4
                go_wp2
                refine Handed.intro (m - 1) (by have := HMJ.out; omega) (hJ3 _ _ _ ⟨j + 1, D :: ds, vn, ⟨rfl, rfl, rfl, rfl, rfl, rfl, rfl, rfl, rfl, by go_num⟩, rfl, ⟨⟨?_, by omega, by have := HMJ.out; omega⟩⟩⟩)
                obtain ⟨⟨h1, h2, h3, h4, h5, h6, h7, h8, h9, h10⟩, g2, g3, g4, g5, g6⟩ := HL5.out
                exact ⟨⟨h1, h2, h3, h4, h5, h6, h7, h8, List.nodup_cons.2 ⟨hDds, h9⟩, fun E hE => (List.mem_cons.1 hE).elim (fun e => by subst e; exact ⟨hD5.out, hszw⟩) (fun h => h10 E h)⟩, g2, g3, g4, g5, g6⟩
              · exact hf.elim
          · obtain rfl : j = now.length := by omega
            rw [bfsNow_all] at HL3
            obtain ⟨An, cn, hvn⟩ := HL3.out.rown.val
            have cnx := blk_cell HL3.out.nxb 0
            simp only [List.getElem?_toArray, List.getElem?_cons_zero] at cnx
            subst hvn
            have hLv : Lv E.N (negs lev) (bfsRound E.l much E.out d lev now) := by
              have := Lv.now (N := E.N) (l := E.l) (much := much) (out := E.out) (d := d) (lev := lev) (now := now) (m := negs lev) ⟨HN.out.1, by simp, by simp⟩ HOK.out.hN.2 (by omega) HN.out.2.1 (fun v h0 h1 i hi => ⟨((HOK.out.hout v h0 h1).2 i hi).2.2.1, ((HOK.out.hout v h0 h1).2 i hi).2.2.2⟩) now.length
              rwa [bfsNow_all] at this
            have HLV := Aside0.mk hLv
            have HBF := HN.out.2.2
            obtain ⟨n', rfl⟩ : ∃ n', n = n' + 1 := ⟨n - 1, by have := HBF.1; omega⟩
            have HBE := Aside0.mk HBF.2
            have hng := HBF.1
            clear HBF hLv
            generalize hst : bfsRound E.l much E.out d lev now = st at HL3 HLV cnx ⊢
            have HST := Aside0.mk hst
            clear hst
            by_cases hemp : st.2 = []
            · have hl0 : ((st.2.length : Int) == 0) = true := by simp [hemp]
              have hb := HBE.out
              rw [bfs, HST.out, if_pos hemp] at hb
              have HB := Aside0.mk hb
              clear hb
              have hlvb := HL3.out.s.lvb
              have hi49 : (Try.prog.info? 49).map (·.size) = some (intsOf st.1).size := by
                rw [show (intsOf st.1).size = 64 by simp [intsOf, HLV.out.len]]
                kernel_rfl
              have h1c : (intsOf st.1).all (·.oneCell') = true := intsOf_one st.1
              go_wp2_with (first | (refine wpList_load_row rfl 49 (.tmp 2) rfl (p1 + 1) rfl 49 _ (0, 0) _ hlvb Try.underlying49 rfl hi49 ?_) | (refine wpList_store_row rfl 49 (.tmp 2) (.tmp 61) rfl (p1 + 1) _ rfl rfl 49 _ hlvb hi49 rfl h1c ?_))
              rw [Exit.noGoto_ret]
              obtain ⟨h1, h2, h3, h4, h5, h6, h7, h8, h9, h10⟩ := HL3.out.s
              have hset : (W.setRow (p1 + 1) (intsOf st.1)).heap[p1 + 1]? = some (.cells (intsOf st.1) 49 (0, 0)) := setRow_heap W (p1 + 1) _ _ _ _ h3
              have hoth : ∀ k, k ≠ p1 + 1 → (W.setRow (p1 + 1) (intsOf st.1)).heap[k]? = W.heap[k]? := fun k hk => setRow_other W (p1 + 1) k _ hk
              have hpe := HPE.out
              have hch : Ch [] w (W.setRow (p1 + 1) (intsOf st.1)) := ⟨h1.os, h1.tape, h1.output, by rw [size_setRow]; exact h1.size, fun k hk _ => (hoth k (by omega)).trans (h1.block k hk (by simp))⟩
              refine leaves_marks (fn := Try.f28) ds _ h9 (fun D hD => (hoth D (blk_ne (h10 D hD).1 h3 (by simp))).trans (h10 D hD).1) ?_
              intro w' hc
              have hg := hc.at hset (fun hin => by have := (h10 _ hin).1; rw [h3] at this; cases this)
              refine ⟨_, results_cell_row rfl _ _ (p1 + 1) 49 _ (0, 0) _ rfl hg Try.underlying49 rfl hi49, by rw [HB.out, HRES.out], hch.trans hc (fun i hi => .inr (h10 i hi).2)⟩
            · have hl0 : ((st.2.length : Int) == 0) = false := by simp [hemp]
              have cd := blk_cell HL3.out.s.dpb 0
              simp only [List.getElem?_toArray, List.getElem?_cons_zero] at cd
              go_wp2
              have hb := HBE.out
              rw [bfs, HST.out, if_neg hemp] at hb
              have hsum := HLV.out.sum
              have hp0 : 0 < st.2.length := List.length_pos_iff.2 hemp
              refine Handed.intro n' (by omega) (hJ _ _ _ ⟨.slice An st.2.length cn, W.heap.size, ds, st.1, st.2, d + 1, ⟨rfl, rfl, rfl, rfl, rfl, rfl⟩, rfl, ⟨⟨?_, HLV.out.len, HLV.out.ok, ?_, by omega, by omega, by omega, hb⟩⟩⟩)
              · obtain ⟨⟨h1, h2, h3, h4, h5, h6, h7, h8, h9, h10⟩, g2, g3, g4, g5, g6⟩ := HL3.out
                refine ⟨h1.alloc _, blk_alloc h2 _, blk_alloc h3 _, blk_new _ _, g4.keepBl (KeepBl.alloc _ _), ?_, h7, h1.size, h9, fun D hD => ⟨blk_alloc (h10 D hD).1 _, (h10 D hD).2⟩⟩
                intro e
                have := (g4.lt _ e).2
                omega
              · have := List.length_filter_le (fun x => decide (x < 0)) lev
                have := HN.out.1
                simp only [negs] at *
                omega
end Go.Proofs.Ytipfpckjgfjehaa

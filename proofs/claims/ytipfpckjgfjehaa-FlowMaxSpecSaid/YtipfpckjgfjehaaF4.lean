/-
  flow.Max: the closure push: the walk.
-/
import Derived.Test.YtipfpckjgfjehaaF2
import Derived.Test.YtipfpckjgfjehaaM
import Derived.Test.YtipfpckjgfjehaaP3
import Derived.Laws.EntriesVeiled
import Derived.Laws.Small
import Derived.Deep.CutBlock
import Derived.Deep.DeepCutAuto
namespace Go.Proofs.Ytipfpckjgfjehaa
set_option linter.unusedVariables false
set_option linter.unusedSimpArgs false
open Go.RowKit PFlowMaxSpec Go.Proofs.YtipfpckjgfjehaaW.PrintWords
attribute [local go_sem] Oper.semAt_some

/-- The blocks of Max that push touches. -/
structure PB where
  nb : Nat
  pxb : Nat
  lb : Nat
  db : Nat
  pb : Nat
def PB.fn (b : PB) : Value := .func (.func 29) #[] #[.pointer (some ⟨b.nb, 0, none⟩), .pointer (some ⟨b.pxb, 0, none⟩), .pointer (some ⟨b.lb, 0, none⟩), .pointer (some ⟨b.db, 0, none⟩), .pointer (some ⟨b.pb, 0, none⟩)]
structure PMem (E : Env) (lev : List Int) (b : PB) (W : World) (st : PS) : Prop where
  nbb : W.heap[b.nb]? = some (.cells #[.int .i64 E.N, .int .i64 E.s, .int .i64 E.t, .slice E.A E.l.length E.c] 24 (0, 0))
  pxbb : W.heap[b.pxb]? = some (.cells #[.pointer (some ⟨E.xb, 0, none⟩)] 53 (0, 0))
  xbb : W.heap[E.xb]? = some (E.block st.much)
  lbb : W.heap[b.lb]? = some (.cells (intsOf lev) 49 (0, 0))
  dbb : W.heap[b.db]? = some (.cells (boolsOf st.dead) 59 (0, 0))
  pbb : W.heap[b.pb]? = some (.cells #[b.fn] 60 (0, 0))
/-- .. and the call's own: v, most, sent. -/
structure PLoc (E : Env) (lev : List Int) (b : PB) (w : World) (B : Nat) (v most : Int) (W : World) (sent : Int) (st : PS) : Prop where
  ch : Ch [E.xb, b.db] w W
  mem : PMem E lev b W st
  vb : W.heap[B]? = some (.cells #[.int .i64 v] 3 (0, 0))
  mb : W.heap[B + 1]? = some (.cells #[.int .i64 most] 3 (0, 0))
  sb : W.heap[B + 1 + 1]? = some (.cells #[.int .i64 sent] 3 (0, 0))
  hB : w.heap.size ≤ B

section
variable {E : Env} {lev : List Int} {b : PB} {w W W' : World} {B : Nat} {v most sent : Int} {st : PS}
theorem PMem.move (h : PMem E lev b W st) (hk : KeepBl W W') : PMem E lev b W' st :=
  ⟨hk _ _ h.nbb (by simp), hk _ _ h.pxbb (by simp), hk _ _ h.xbb (by simp [Env.block]), hk _ _ h.lbb (by simp), hk _ _ h.dbb (by simp), hk _ _ h.pbb (by simp)⟩
theorem PLoc.move (h : PLoc E lev b w B v most W sent st) (hc : Ch [E.xb, b.db] w W') (hk : KeepBl W W') : PLoc E lev b w B v most W' sent st :=
  ⟨hc, h.mem.move hk, hk _ _ h.vb (by simp), hk _ _ h.mb (by simp), hk _ _ h.sb (by simp), h.hB⟩
theorem PLoc.alloc (h : PLoc E lev b w B v most W sent st) (o : Obj) : PLoc E lev b w B v most (W.alloc o) sent st := h.move (h.ch.alloc o) (KeepBl.alloc W o)
theorem PLoc.putObj (h : PLoc E lev b w B v most W sent st) {l : Nat} {r : Loop} (hl : W.heap[l]? = some (.loop r)) (hw : w.heap.size ≤ l) (o : Obj) : PLoc E lev b w B v most (W.putObj l o) sent st :=
  h.move (h.ch.putObj l o (.inr hw)) (KeepBl.putObj hl o)
theorem PLoc.drewN (h : PLoc E lev b w B v most W sent st) (n : Nat) : PLoc E lev b w B v most (W.drewN n) sent st := h.move (h.ch.drewN n) (KeepBl.drewN W n)
/-- sent is written. -/
theorem PLoc.setSent (h : PLoc E lev b w B v most W sent st) (x : Int) : PLoc E lev b w B v most (W.setCell ⟨B + 1 + 1, 0, none⟩ (.int .i64 x)) x st := by
  have far : ∀ {k : Nat} {o : Obj}, W.heap[k]? = some o → k ≠ B + 1 + 1 → (W.setCell ⟨B + 1 + 1, 0, none⟩ (.int .i64 x)).heap[k]? = some o := fun hk hn => blk_other hk _ _ hn
  have ty : ∀ {k : Nat} {o : Obj}, W.heap[k]? = some o → o ≠ .cells #[.int .i64 sent] 3 (0, 0) → (W.setCell ⟨B + 1 + 1, 0, none⟩ (.int .i64 x)).heap[k]? = some o := fun hk hn => far hk (blk_ne hk h.sb hn)
  have hm := h.mem
  refine ⟨h.ch.setCell _ _ (.inr ?_), ⟨ty hm.nbb (by simp), ty hm.pxbb (by simp), ty hm.xbb (by simp [Env.block]), ty hm.lbb (by simp), ty hm.dbb (by simp), ty hm.pbb (by simp)⟩, far h.vb (by omega), far h.mb (by omega), ?_, h.hB⟩
  · have := h.hB; show w.heap.size ≤ B + 1 + 1; omega
  · have := blk_set h.sb 0 (.int .i64 x); simpa using this
/-- An arc is written. -/
theorem PLoc.setMuch (h : PLoc E lev b w B v most W sent st) (i : Nat) (hi : i < st.much.length) (x : Int) : PLoc E lev b w B v most (W.setCell ⟨E.xb, 4 + i, none⟩ (.int .i64 x)) sent ⟨st.much.set i x, st.dead⟩ := by
  have hm := h.mem
  have ty : ∀ {k : Nat} {o : Obj}, W.heap[k]? = some o → (∀ cs, o ≠ .cells cs 57 (0, 0)) → (W.setCell ⟨E.xb, 4 + i, none⟩ (.int .i64 x)).heap[k]? = some o := fun hk hn => blk_other hk _ _ (blk_ne hk hm.xbb (hn _))
  refine ⟨h.ch.setCell _ _ (.inl (by simp)), ⟨ty hm.nbb (by simp), ty hm.pxbb (by simp), ?_, ty hm.lbb (by simp), ty hm.dbb (by simp), ty hm.pbb (by simp)⟩, ty h.vb (by simp), ty h.mb (by simp), ty h.sb (by simp), h.hB⟩
  have := blk_set hm.xbb (4 + i) (.int .i64 x)
  rwa [rest_set_much i hi x] at this
/-- A vertex dies. -/
theorem PLoc.setDead (h : PLoc E lev b w B v most W sent st) (i : Nat) (x : Bool) : PLoc E lev b w B v most (W.setCell ⟨b.db, i, none⟩ (.bool x)) sent ⟨st.much, st.dead.set i x⟩ := by
  have hm := h.mem
  have ty : ∀ {k : Nat} {o : Obj}, W.heap[k]? = some o → (∀ cs, o ≠ .cells cs 59 (0, 0)) → (W.setCell ⟨b.db, i, none⟩ (.bool x)).heap[k]? = some o := fun hk hn => blk_other hk _ _ (blk_ne hk hm.dbb (hn _))
  refine ⟨h.ch.setCell _ _ (.inl (by simp)), ⟨ty hm.nbb (by simp), ty hm.pxbb (by simp), ty hm.xbb (by simp [Env.block]), ty hm.lbb (by simp), ?_, ty hm.pbb (by simp)⟩, ty h.vb (by simp), ty h.mb (by simp), ty h.sb (by simp), h.hB⟩
  have := blk_set hm.dbb i (.bool x)
  rwa [boolsOf_set] at this
end

/-- All cells are as they were. -/
theorem PMem.moveC {E : Env} {lev : List Int} {b : PB} {W W' : World} {st : PS} (h : PMem E lev b W st) (hk : ∀ (k : Nat) (cs : Array Value) (t : TypeId) (f : Nat × Nat), W.heap[k]? = some (Obj.cells cs t f) → W'.heap[k]? = some (Obj.cells cs t f)) : PMem E lev b W' st :=
  ⟨hk _ _ _ _ h.nbb, hk _ _ _ _ h.pxbb, hk _ _ _ _ h.xbb, hk _ _ _ _ h.lbb, hk _ _ _ _ h.dbb, hk _ _ _ _ h.pbb⟩
theorem mark_keeps {W W' : World} {D : Nat} (hc : Ch [D] W W') (hD : W.heap[D]? = some (.deferred (some []))) : ∀ (k : Nat) (cs : Array Value) (t : TypeId) (f : Nat × Nat), W.heap[k]? = some (Obj.cells cs t f) → W'.heap[k]? = some (Obj.cells cs t f) :=
  fun k cs t f hk => hc.at hk (fun hin => by rw [List.mem_singleton] at hin; subst hin; rw [hD] at hk; cases hk)
/-- A call has been made that writes arcs and deaths alone. -/
theorem PLoc.call {E : Env} {lev : List Int} {b : PB} {w W W2 : World} {B : Nat} {v most sent : Int} {st st2 : PS} (h : PLoc E lev b w B v most W sent st) (hc : Ch [E.xb, b.db] W W2) (hm : PMem E lev b W2 st2) : PLoc E lev b w B v most W2 sent st2 := by
  have nin : ∀ {k : Nat} {o : Obj}, W.heap[k]? = some o → (∀ cs, o ≠ .cells cs 57 (0, 0)) → (∀ cs, o ≠ .cells cs 59 (0, 0)) → k ∉ [E.xb, b.db] := fun hk h1 h2 hin => by
    simp only [List.mem_cons, List.not_mem_nil, or_false] at hin
    rcases hin with rfl | rfl
    · exact h1 _ (Option.some.inj (hk.symm.trans h.mem.xbb))
    · exact h2 _ (Option.some.inj (hk.symm.trans h.mem.dbb))
  exact ⟨h.ch.trans_same hc, hm, hc.at h.vb (nin h.vb (by simp) (by simp)), hc.at h.mb (nin h.mb (by simp) (by simp)), hc.at h.sb (nin h.sb (by simp) (by simp)), h.hB⟩

/-- What holds when so many of the arcs have been seen. -/
structure PJ (E : Env) (lev : List Int) (b : PB) (w : World) (B : Nat) (v most : Int) (l D bx : Nat) (tm : Array Value) (asg bo : Code) (a : Int × PS × Bool) (r : Loop) (W : World) : Prop where
  p : PLoc E lev b w B v most W a.1 a.2.1
  go : a.2.2 = false
  hl : W.heap[l]? = some (.loop r)
  hr : RecOk r tm #[21] asg bo
  rdy : r.state = .ready
  pen : r.pending = none
  hD : W.heap[D]? = some (.deferred (some []))
  hbx : W.heap[bx]? = some (.cells #[.pointer (some ⟨E.xb, 0, none⟩)] 53 (0, 0))
/-- .. and when v is done. -/
structure PX (E : Env) (lev : List Int) (b : PB) (w : World) (B : Nat) (v most : Int) (l D : Nat) (a : Int × PS × Bool) (r : Loop) (W : World) : Prop where
  p : PLoc E lev b w B v most W a.1 a.2.1
  stop : a.2.2 = true
  hl : W.heap[l]? = some (.loop r)
  rdy : r.state = .done
  pen : r.pending = some .ret
  hD : W.heap[D]? = some (.deferred (some []))

theorem results_cell_int {P : Program} {fn : Func} {p : Tmp} {ty : TypeId} (h : fn.results = #[.cell p ty]) (tmps : Array Value) (w : World) (g : Nat) (x : Int) (hp : tmps.getD p undef = .pointer (some ⟨g, 0, none⟩))
    (hg : w.heap[g]? = some (.cells #[.int .i64 x] 3 (0, 0))) (hl : ∀ w : World, w.cell? ⟨g, 0, none⟩ = some (.int .i64 x) → (loadVar ty ⟨g, 0, none⟩).run P w = .ok (.int .i64 x) w) :
    (results fn tmps).run P w = .ok (.int .i64 x) w := by
  have hp' : tmps[p]?.getD undef = .pointer (some ⟨g, 0, none⟩) := by simpa using hp
  simp [results, h, hp', asAddr, hl w (by rw [blk_cell hg 0]; rfl)]

theorem bits_opp (i : Int) (h0 : 0 ≤ i) (h1 : i < 1024) : bits .xor .i64 i 1 = opp i := by
  obtain ⟨n, rfl⟩ : ∃ n : Nat, i = (n : Int) := ⟨i.toNat, by omega⟩
  have hn : n < 1024 := by omega
  clear h0 h1
  revert n
  decide +kernel
set_option maxHeartbeats 1000000 in
set_option maxRecDepth 100000 in
theorem push_calls (E : Env) (ok : E.Ok) (lev : List Int) (hlev : lev.length = 64 ∧ ∀ u : Int, gi lev u ≤ 65 ∧ -1 ≤ gi lev u) (hE : ∀ v, E.out v = outK E.l E.l.length v) (hcap : ∀ k : Nat, k < E.l.length → (rd_T43 E.l k).f2 ≤ 1073741824) (hhd : ∀ i : Int, 0 ≤ i → i < 2 * E.l.length → 0 ≤ toV E.l i ∧ toV E.l i < E.N) (b : PB) :
    ∀ (n : Nat) (v most : Int) (st : PS) (w : World), PInv E.l st → PMem E lev b w st → (∀ w', Ch [E.xb, b.db] w w' → E.Data w') → 0 < most → most ≤ 549755813888 → 0 ≤ v → v < E.N → 66 ≤ gi lev v + n →
    Calls Try.prog 29 #[.int .i64 v, .int .i64 most, .pointer (some ⟨b.nb, 0, none⟩), .pointer (some ⟨b.pxb, 0, none⟩), .pointer (some ⟨b.lb, 0, none⟩), .pointer (some ⟨b.db, 0, none⟩), .pointer (some ⟨b.pb, 0, none⟩)] w fun e w' =>
      e = .returned (.int .i64 (push E.l lev E.out E.t n v most st).1) ∧ Ch [E.xb, b.db] w w' ∧ PMem E lev b w' (push E.l lev E.out E.t n v most st).2 := by
  intro n
  induction n with
  | zero => intro v most st w _ _ _ _ _ _ _ h; have := (hlev.2 v).1; omega
  | succ n ih =>
    intro v most st w hinv hmem hdat hm0 hm1 hv0 hvN hn
    have IH := Aside0.mk ih
    have HOK := Aside0.mk ok
    have HLEV := Aside0.mk hlev
    have HE := Aside0.mk hE
    have HHD := Aside0.mk hhd
    have HCAP := Aside0.mk hcap
    have HINV := Aside0.mk hinv
    have HD := Aside0.mk hdat
    have HN := Aside0.mk hn
    have hN64 := ok.hN.2
    have cn2 := blk_cell hmem.nbb 2
    simp only [List.getElem?_toArray, List.getElem?_cons_succ, List.getElem?_cons_zero] at cn2
    have hnbw : b.nb < w.heap.size := blk_lt hmem.nbb
    have HM := Aside0.mk hmem
    clear ih ok hlev hE hhd hcap hinv hmem hdat hn
    refine calls_of_wp_marks Try.func29 rfl ?_
    simp only [Try.ntmps29, List.size_toArray, List.length_cons, List.length_nil, Nat.reduceAdd, Nat.reduceSub, Array.replicate_succ, Array.replicate_zero, List.push_toArray, List.append_toArray, List.nil_append, List.cons_append]
    go_upto_region 1 with (fail)
    have hB : w.heap.size = w.heap.size := rfl
    refine wp_abs (fun W => PLoc E lev b w w.heap.size v most W 0 st) ?_ ?_
    · have h1 := blk_new w (.cells #[.int .i64 v] 3)
      have h2 := blk_new (w.alloc (.cells #[.int .i64 v] 3)) (.cells #[.int .i64 most] 3)
      have h3 := blk_new ((w.alloc (.cells #[.int .i64 v] 3)).alloc (.cells #[.int .i64 most] 3)) (.cells #[.int .i64 0] 3)
      rw [World.size_alloc] at h2 h3
      rw [World.size_alloc] at h3
      exact ⟨(((Ch.refl _ _).alloc _).alloc _).alloc _, HM.out.move (((KeepBl.alloc _ _).trans (KeepBl.alloc _ _)).trans (KeepBl.alloc _ _)), blk_alloc (blk_alloc h1 _) _, blk_alloc h2 _, h3, Nat.le_refl _⟩
    intro W hW
    have HL := Aside0.mk hW
    clear hW HM cn2 hnbw
    obtain ⟨B, hBe⟩ : ∃ B, B = w.heap.size := ⟨_, rfl⟩
    have HB := Aside0.mk hBe
    rw [← hBe] at HL ⊢
    clear hB hBe
    have cv := blk_cell HL.out.vb 0
    have cm := blk_cell HL.out.mb 0
    have cs := blk_cell HL.out.sb 0
    have fs := blk_free HL.out.sb 0
    have cn2 := blk_cell HL.out.mem.nbb 2
    have cx := blk_cell HL.out.mem.pxbb 0
    simp only [List.getElem?_toArray, List.getElem?_cons_succ, List.getElem?_cons_zero] at cv cm cs cn2 cx
    by_cases hvt : v = E.t
    · have hd : (v == E.t) = true := by simpa using hvt
      have hpush : push E.l lev E.out E.t (n + 1) v most st = (most, st) := by rw [push, if_pos hvt]
      have HP := Aside0.mk hpush
      clear hpush hvt
      go_wp2
      have hL2 := HL.out.setSent most
      refine leaves_marks (fn := Try.f29) [] _ List.nodup_nil (by simp) ?_
      intro w' hc
      have hL3 := hL2.move (hL2.ch.trans hc (by simp)) (fun k o hk _ => hc.at hk (by simp))
      refine ⟨_, results_cell_int rfl _ _ (B + 1 + 1) most rfl hL3.sb (fun w hw => ?_), ?_⟩
      · simp [go_sem, hw]
      · rw [HP.out]; exact ⟨rfl, hL3.ch, hL3.mem⟩
    · have hd : (v == E.t) = false := by simpa using hvt
      go_wp2_with (go_at_call 30; refine (open_calls _ _ _).mono ?_; rintro e w' ⟨rfl, rfl⟩)
      refine wp_abs (fun W3 => PLoc E lev b w B v most W3 0 st ∧ W3.heap[W.heap.size]? = some (.cells #[.pointer (some ⟨E.xb, 0, none⟩)] 53 (0, 0)) ∧ W3.heap[W.heap.size + 1]? = some (.cells #[.int .i64 v] 3 (0, 0)))
        ⟨(HL.out.alloc _).alloc _, blk_alloc (blk_new _ _) _, by have := blk_new (W.alloc (.cells #[.pointer (some ⟨E.xb, 0, none⟩)] 53)) (.cells #[.int .i64 v] 3); rwa [World.size_alloc] at this⟩ ?_
      intro W3 ⟨h31, h32, h33⟩
      generalize hbxe : W.heap.size = bx at h32 h33 ⊢
      clear hbxe HL cv cm cs fs cn2 cx W
      have HVT := Aside0.mk hvt
      clear hd hvt
      refine range_func2 rfl (enters_of Try.func35 (by kernel_rfl) rfl) ?_
      intro asg bo tm has hbo htm rec hrec hst hpe
      have HAS := Aside0.mk has
      have HBO := Aside0.mk hbo
      have HTM := Aside0.mk htm
      clear has hbo htm
      have hszw := h31.ch.size
      obtain ⟨Av, cv, hov, hrows⟩ := (HD.out W3 h31.ch).rows v hv0 hvN
      refine calls_abs (fun W4 => W4.heap[bx + 1]? = some (.cells #[.int .i64 v] 3 (0, 0)) ∧ PJ E lev b w B v most (W3.heap.size + 1) W3.heap.size bx tm asg bo (pushTake E.l lev E.out E.t n v most st 0) rec W4)
        ⟨blk_alloc (blk_alloc h33 _) _, (h31.alloc _).alloc _, rfl, by have := blk_new (W3.alloc (.deferred (some []))) (.loop rec); rwa [World.size_alloc] at this, hrec, hst, hpe, blk_alloc (blk_new _ _) _, blk_alloc (blk_alloc h32 _) _⟩ ?_
      intro W4 ⟨hbv4, hJ4⟩
      generalize W3.heap.size = D at hJ4 hszw ⊢
      clear h31 h32 h33 hrows W3
      refine (callsIn_wide.1 (open1_calls (D + 1) bx (bx + 1) E.xb cv v hv0 (by omega) Av (E.out v) (fun k W' => ∃ r, PJ E lev b w B v most (D + 1) D bx tm asg bo (pushTake E.l lev E.out E.t n v most st k) r W') (fun W' => ∃ r, PX E lev b w B v most (D + 1) D (pushTake E.l lev E.out E.t n v most st (E.out v).length) r W') W4
        (by have := (HOK.out.hout v hv0 hvN).1; omega) (blk_cell hJ4.hbx 0) (blk_cell hbv4 0) ((blk_cell hJ4.p.mem.xbb _).trans ((rest_out HINV.out.ml _).trans hov)) ?hdr ?hst)).mono ?hpost
      case hdr => exact fun n => ⟨rec, hJ4.p.drewN n, hJ4.go, hJ4.hl, hJ4.hr, hJ4.rdy, hJ4.pen, hJ4.hD, hJ4.hbx⟩
      case hst =>
        rintro k W ⟨r, hJk⟩ hk
        obtain ⟨Av', cv', hov', hrows⟩ := (HD.out W hJk.p.ch).rows v hv0 hvN
        obtain ⟨rfl, rfl⟩ : Av' = Av ∧ cv' = cv := by rw [hov] at hov'; injection hov' with e; injection e with e1 e2 e3; exact ⟨e1.symm, e3.symm⟩
        obtain ⟨adv, hav, hcv⟩ := hrows k hk
        have hmem : (E.out v).getD k 0 ∈ E.out v := by rw [List.getD_eq_getElem?_getD, List.getElem?_eq_getElem hk]; exact List.getElem_mem _
        obtain ⟨hi0, hi1, ht0, ht1⟩ := (HOK.out.hout v hv0 hvN).2 _ hmem
        have hl512 := HOK.out.hl
        have hsucc := pushTake_succ (l := E.l) (lev := lev) (t := E.t) (n := n) (most := most) (st := st) hk
        have hF : FOk E.l lev E.t v most st ((outK E.l E.l.length v).take k) (pushTake E.l lev (outK E.l E.l.length) E.t n v most st k) :=
          pushTake_ok (N := E.N) hN64 hl512 HHD.out (fun u => (HLEV.out.2 u).1) HOK.out.ht.1 HINV.out hm0 hv0 HVT.out HN.out k
        have hEo : E.out = outK E.l E.l.length := funext HE.out
        rw [← hEo] at hF
        clear hEo
        generalize hak : pushTake E.l lev E.out E.t n v most st k = a at hJk hsucc hF
        generalize hix : (E.out v).getD k 0 = i at hmem hi0 hi1 ht0 ht1 hcv hsucc ⊢
        have hml := hF.keep.inv.ml
        refine ⟨adv, hav, blk_cell hJk.hbx 0, hcv, hi0, by omega, gi a.2.1.much i, (blk_cell hJk.p.mem.xbb _).trans (rest_much _ (by omega)), ?_, fun hneg => ?_⟩
        · intro hpos m
          refine yield_one hJk.hl hJk.hr hJk.rdy HAS.out HBO.out HTM.out ?_
          simp only [List.setIfInBounds_toArray, List.set_cons_succ, List.set_cons_zero]
          gi_wp2
          refine ⟨hJk.hl, fun rb hrb => ?_⟩
          refine wpIn_abs (fun W' => PLoc E lev b w B v most W' a.1 a.2.1 ∧ W'.heap[D + 1]? = some (.loop rb) ∧ W'.heap[D]? = some (.deferred (some [])) ∧ W'.heap[bx]? = some (.cells #[.pointer (some ⟨E.xb, 0, none⟩)] 53 (0, 0)))
            ⟨hJk.p.putObj hJk.hl (by omega) _, World.putObj_heap_same (blk_lt hJk.hl), (KeepBl.putObj hJk.hl _) _ _ hJk.hD (by simp), (KeepBl.putObj hJk.hl _) _ _ hJk.hbx (by simp)⟩ ?_
          have hgo := hJk.go
          clear hJk hrows hcv hav r hmem
          intro W' ⟨hS, hl', hD', hbx'⟩
          have hdat := HD.out W' hS.ch
          have hs3 : W'.cell? ⟨E.xb, 3, none⟩ = some (.slice E.A E.l.length E.c) := (blk_cell hS.mem.xbb 3).trans rest_3
          have harcs := Aside0.mk hdat.arcs
          have cpx := blk_cell hS.mem.pxbb 0
          have cB := blk_cell hS.vb 0
          simp only [List.getElem?_toArray, List.getElem?_cons_zero] at cpx cB
          have hll := HLEV.out.1
          have hdl := hF.keep.inv.dl
          have clw : W'.cell? ⟨b.lb, (toV E.l i).toNat, none⟩ = some (.int .i64 (gi lev (toV E.l i))) := (blk_cell hS.mem.lbb (toV E.l i).toNat).trans (intsOf_get _ _ (by omega))
          have clv : W'.cell? ⟨b.lb, v.toNat, none⟩ = some (.int .i64 (gi lev v)) := (blk_cell hS.mem.lbb v.toNat).trans (intsOf_get _ _ (by omega))
          have cdw : W'.cell? ⟨b.db, (toV E.l i).toNat, none⟩ = some (.bool (gb a.2.1.dead (toV E.l i))) := (blk_cell hS.mem.dbb (toV E.l i).toNat).trans (boolsOf_get _ _ (by omega))
          have HS := Aside0.mk hS
          have HF := Aside0.mk hF
          have HRB := Aside0.mk hrb
          have HSU := Aside0.mk hsucc
          have HGO := Aside0.mk hgo
          have H5 := Aside0.mk (And.intro hl' (And.intro hD' hbx'))
          have hb1 := (HLEV.out.2 v)
          have hpa : 0 < gi a.2.1.much i := hpos
          clear hdat hS hF hrb hsucc hgo hl' hD' hbx' hml hdl hll
          generalize hlx : gi lev (toV E.l i) = x at clw
          generalize hly : gi lev v = y at clv hb1
          generalize hdx : gb a.2.1.dead (toV E.l i) = dw at cdw
          have HLX := Aside0.mk (And.intro hlx (And.intro hly hdx))
          clear hlx hly hdx
          gi_wp2
          refine ⟨trivial, (fun h => by cases h), (calls_round (to_calls _ _ _ _ _ _ hi0 hi1 (by omega) hs3 harcs.out)).mono ?_⟩
          rintro e w' ⟨rfl, rfl⟩
          by_cases hxy : x = y + 1
          · have hd0 : (x != y + 1) = false := by simpa using hxy
            have hdc : dw = true ∨ dw = false := by cases dw <;> simp
            rcases hdc with rfl | rfl
            · gi_wp2
              refine region_quiet_round rfl (by kernel_rfl) (by kernel_rfl) ?_
              repeat (go_big_quiet_step (fail))
              refine wpQuiet_nil ?_
              rintro w' ⟨q, rfl⟩
              gi_wp2
              obtain ⟨hl', hD', hbx'⟩ := H5.out
              have hl6 : (W'.drewN q).heap[D + 1]? = some (.loop rb) := hl'
              refine round_on2 hl6 HRB.out (fun r hr1 hr2 hr3 => .inl ⟨rfl, r, ?_⟩)
              have hst : pushArc (push E.l lev E.out E.t n) E.l lev v most a i = a := by
                unfold pushArc
                rw [if_neg (by rw [HGO.out]; simp), if_neg (by have := hpa; omega), if_pos (.inr HLX.out.2.2)]
              rw [hst]
              exact ⟨(HS.out.drewN q).putObj hl6 (by omega) _, HGO.out, World.putObj_heap_same (blk_lt hl6), hr1, hr2, hr3, (World.putObj_heap_other (by omega)).trans hD', (KeepBl.putObj hl6 _) _ _ hbx' (by simp)⟩
            · gi_wp2
              refine region_quiet_round rfl (by kernel_rfl) (by kernel_rfl) ?_
              repeat (go_big_quiet_step (fail))
              refine wpQuiet_nil ?_
              rintro w' ⟨q, rfl⟩
              gi_wp2
              refine wpIn_abs (fun W1 => PLoc E lev b w B v most W1 a.1 a.2.1 ∧ W1.heap[D + 1]? = some (.loop rb) ∧ W1.heap[D]? = some (.deferred (some [])) ∧ W1.heap[bx]? = some (.cells #[.pointer (some ⟨E.xb, 0, none⟩)] 53 (0, 0)))
                ⟨HS.out.drewN q, H5.out⟩ ?_
              clear hs3 harcs cpx cB clw clv cdw HS H5 q W'
              intro W1 ⟨hS, hl', hD', hbx'⟩
              have HS := Aside0.mk hS
              have H5 := Aside0.mk (And.intro hl' (And.intro hD' hbx'))
              have hmi : W1.cell? ⟨E.xb, 4 + i.toNat, none⟩ = some (.int .i64 (gi a.2.1.much i)) := (blk_cell hS.mem.xbb _).trans (rest_much _ (by rw [HF.out.keep.inv.ml]; omega))
              generalize hmiv : gi a.2.1.much i = mi at hmi hpa
              have cpb := blk_cell hS.mem.pbb 0
              have cpx := blk_cell hS.mem.pxbb 0
              have cm := blk_cell hS.mb 0
              have cs := blk_cell hS.sb 0
              simp only [List.getElem?_toArray, List.getElem?_cons_zero, PB.fn] at cpb cpx cm cs
              have s0 := HF.out.keep.s0
              have s1 := HF.out.more HGO.out
              have HMI := Aside0.mk hmiv
              clear hS hl' hD' hbx' hmiv
              generalize hae : a.1 = sent at s0 s1 cs
              have HAE := Aside0.mk hae
              clear hae
              refine region_tail_round_q 12 rfl (by kernel_rfl) (by kernel_rfl) ?_
              simp only [List.take_succ_cons, List.take_zero, List.drop_succ_cons, List.drop_zero]
              repeat (go_big_quiet_step (fail))
              refine wpQuiet_nil ?_
              generalize hmm : (if mi < most - sent then mi else most - sent) = mm
              have hmm0 : 0 < mm ∧ mm ≤ mi ∧ mm ≤ most - sent := by subst hmm; split <;> omega
              have HMM := Aside0.mk (show min (most - sent) mi = mm by rw [← hmm, Int.min_def]; split <;> split <;> omega)
              clear hmm
              have HH := HHD.out i hi0 hi1
              go_wp2_with (go_at_call 29; refine (IH.out (toV E.l i) mm a.2.1 W1.drew HF.out.keep.inv (HS.out.mem.move (KeepBl.drewN W1 1)) (fun w' hc => HD.out w' ((HS.out.ch.drew).trans_same hc)) hmm0.1 (by omega) HH.1 HH.2 (by have := HN.out; have := HLX.out.1; have := HLX.out.2.1; omega)).mono ?_; rintro e w' ⟨rfl, hcw, hmw⟩)
              have hpo := push_ok (N := E.N) hN64 HOK.out.hl HHD.out (fun u => (HLEV.out.2 u).1) HOK.out.ht.1 n (toV E.l i) mm a.2.1 HF.out.keep.inv hmm0.1 HH.1 HH.2 (by have := HN.out; have := HLX.out.1; have := HLX.out.2.1; omega)
              rw [← (funext HE.out : E.out = outK E.l E.l.length)] at hpo
              have hpa2 : pushArc (push E.l lev E.out E.t n) E.l lev v most a i = (sent + (push E.l lev E.out E.t n (toV E.l i) mm a.2.1).1, ⟨((push E.l lev E.out E.t n (toV E.l i) mm a.2.1).2.much.set i.toNat (gi (push E.l lev E.out E.t n (toV E.l i) mm a.2.1).2.much i - (push E.l lev E.out E.t n (toV E.l i) mm a.2.1).1)).set (opp i).toNat (gi ((push E.l lev E.out E.t n (toV E.l i) mm a.2.1).2.much.set i.toNat (gi (push E.l lev E.out E.t n (toV E.l i) mm a.2.1).2.much i - (push E.l lev E.out E.t n (toV E.l i) mm a.2.1).1)) (opp i) + (push E.l lev E.out E.t n (toV E.l i) mm a.2.1).1), (push E.l lev E.out E.t n (toV E.l i) mm a.2.1).2.dead⟩, decide (sent + (push E.l lev E.out E.t n (toV E.l i) mm a.2.1).1 = most)) := by
                unfold pushArc
                rw [if_neg (by rw [HGO.out]; simp), if_neg (by rw [HMI.out]; omega), if_neg (by rw [HLX.out.1, HLX.out.2.1, HLX.out.2.2]; simpa using hxy), HMI.out, HAE.out, HMM.out]
              have HPA := Aside0.mk hpa2
              rw [HAE.out] at HS
              have hx1 := hcw.at (show W1.drew.heap[D + 1]? = some (.loop rb) from H5.out.1) (by
                have n1 := blk_ne H5.out.1 HS.out.mem.xbb (by simp [Env.block])
                have n2 := blk_ne H5.out.1 HS.out.mem.dbb (by simp)
                simp [n1, n2])
              have hx2 := hcw.at (show W1.drew.heap[D]? = some (.deferred (some [])) from H5.out.2.1) (by
                have n1 := blk_ne H5.out.2.1 HS.out.mem.xbb (by simp [Env.block])
                have n2 := blk_ne H5.out.2.1 HS.out.mem.dbb (by simp)
                simp [n1, n2])
              have hx3 := hcw.at (show W1.drew.heap[bx]? = some (.cells #[.pointer (some ⟨E.xb, 0, none⟩)] 53 (0, 0)) from H5.out.2.2) (by
                have n1 := blk_ne H5.out.2.2 HS.out.mem.xbb (by simp [Env.block])
                have n2 := blk_ne H5.out.2.2 HS.out.mem.dbb (by simp)
                simp [n1, n2])
              have hS2 := PLoc.call (HS.out.drewN 1) hcw hmw
              have HPO := Aside0.mk hpo
              have d0 := hpo.keep.s0
              have d1 := hpo.s1
              clear hpo hcw hmw HS H5 hpa2
              generalize push E.l lev E.out E.t n (toV E.l i) mm a.2.1 = rr at HPO HPA d0 d1 hS2 ⊢
              refine ⟨rfl, ?_⟩
              have HS := Aside0.mk hS2
              have H5 := Aside0.mk (And.intro hx1 (And.intro hx2 hx3))
              clear hS2 hx1 hx2 hx3 hmi cpx cm cs HMI
              gi_wp2
              refine wpIn_abs (fun W1 => PLoc E lev b w B v most W1 sent rr.2 ∧ W1.heap[D + 1]? = some (.loop rb) ∧ W1.heap[D]? = some (.deferred (some [])) ∧ W1.heap[bx]? = some (.cells #[.pointer (some ⟨E.xb, 0, none⟩)] 53 (0, 0))) ⟨HS.out, H5.out⟩ ?_
              clear HS H5 cpb w' W1
              intro W1 ⟨hS, hl', hD', hbx'⟩
              have HS := Aside0.mk hS
              have H5 := Aside0.mk (And.intro hl' (And.intro hD' hbx'))
              have hml : rr.2.much.length = 1024 := HPO.out.keep.inv.ml
              have hmi : W1.cell? ⟨E.xb, 4 + i.toNat, none⟩ = some (.int .i64 (gi rr.2.much i)) := (blk_cell hS.mem.xbb _).trans (rest_much _ (by omega))
              have hfi := blk_free hS.mem.xbb (4 + i.toNat)
              have cpx := blk_cell hS.mem.pxbb 0
              simp only [List.getElem?_toArray, List.getElem?_cons_zero] at cpx
              obtain ⟨ho0, ho1⟩ := opp_range hi0 hi1
              have hneo : i ≠ opp i := by unfold opp; split <;> omega
              have hsum : ∀ j : Int, 0 ≤ j → j < 2 * E.l.length → 0 ≤ gi rr.2.much j ∧ gi rr.2.much j ≤ 1073741824 := fun j h0 h1 => by
                have h3 := HPO.out.keep.inv.m0 j h0 h1
                have h4 := HPO.out.keep.inv.m0 (opp j) (opp_range h0 h1).1 (opp_range h0 h1).2
                have h5 := HPO.out.keep.inv.cap (j / 2).toNat (by omega)
                have h6 := HCAP.out (j / 2).toNat (by omega)
                have h7 : opp j = if j % 2 = 0 then j + 1 else j - 1 := rfl
                split at h7
                · rw [show 2 * (((j / 2).toNat : Nat) : Int) = j by omega, ← h7] at h5; omega
                · rw [show 2 * (((j / 2).toNat : Nat) : Int) = opp j by omega, show opp j + 1 = j by omega] at h5; omega
              have hbi := hsum i hi0 hi1
              have hbo := hsum (opp i) ho0 ho1
              have heo : gi (rr.2.much.set i.toNat (gi rr.2.much i - rr.1)) (opp i) = gi rr.2.much (opp i) := gi_set_other hi0 ho0 hneo
              clear hS hl' hD' hbx' hsum hneo
              have hS1 := Aside0.mk (((HS.out.drewN 1).setMuch i.toNat (by omega) (gi rr.2.much i - rr.1)))
              generalize hmj : gi rr.2.much i = mj at hmi hbi hS1 HPA heo
              clear hmj
              generalize hdd : rr.1 = d at hS1 d0 d1 HPA heo ⊢
              clear hdd
              have hl2 : rr.2.much.length = 1024 := hml
              refine region_tail_round_q 11 rfl (by kernel_rfl) (by kernel_rfl) ?_
              simp only [List.take_succ_cons, List.take_zero, List.drop_succ_cons, List.drop_zero]
              repeat (go_big_quiet_step (fail))
              refine wpQuiet_nil ?_
              go_wp2
              refine ⟨rfl, ?_⟩
              gi_wp2
              refine wpIn_abs (fun W2 => PLoc E lev b w B v most W2 sent ⟨rr.2.much.set i.toNat (mj - d), rr.2.dead⟩ ∧ W2.heap[D + 1]? = some (.loop rb) ∧ W2.heap[D]? = some (.deferred (some [])) ∧ W2.heap[bx]? = some (.cells #[.pointer (some ⟨E.xb, 0, none⟩)] 53 (0, 0)))
                ⟨hS1.out, blk_other (show W1.drew.heap[D + 1]? = _ from H5.out.1) _ _ (blk_ne H5.out.1 HS.out.mem.xbb (by simp [Env.block])), blk_other (show W1.drew.heap[D]? = _ from H5.out.2.1) _ _ (blk_ne H5.out.2.1 HS.out.mem.xbb (by simp [Env.block])), blk_other (show W1.drew.heap[bx]? = _ from H5.out.2.2) _ _ (blk_ne H5.out.2.2 HS.out.mem.xbb (by simp [Env.block]))⟩ ?_
              clear HS H5 hS1 hmi hfi cpx W1
              intro W1 ⟨hS, hl', hD', hbx'⟩
              have HS := Aside0.mk hS
              have H5 := Aside0.mk (And.intro hl' (And.intro hD' hbx'))
              have hmo : W1.cell? ⟨E.xb, 4 + (opp i).toNat, none⟩ = some (.int .i64 (gi (rr.2.much.set i.toNat (mj - d)) (opp i))) := (blk_cell hS.mem.xbb _).trans (rest_much _ (by simp; omega))
              have hfo := blk_free hS.mem.xbb (4 + (opp i).toNat)
              have cpx := blk_cell hS.mem.pxbb 0
              simp only [List.getElem?_toArray, List.getElem?_cons_zero] at cpx
              clear hS hl' hD' hbx'
              have hS1 := Aside0.mk (((HS.out.drewN 1).setMuch (opp i).toNat (by simp; omega) (gi (rr.2.much.set i.toNat (mj - d)) (opp i) + d)))
              rw [heo] at hmo hS1 HPA
              generalize gi rr.2.much (opp i) = mo at hmo hS1 HPA hbo
              clear heo
              have hbx1 : bits .xor .i64 i 1 = opp i := bits_opp i hi0 (by omega)
              have ho9 : opp i < 1024 := by omega
              generalize opp i = oi at hmo hfo hS1 HPA hbx1 ho0 ho9
              refine region_tail_round_q 12 rfl (by kernel_rfl) (by kernel_rfl) ?_
              simp only [List.take_succ_cons, List.take_zero, List.drop_succ_cons, List.drop_zero]
              repeat (go_big_quiet_step (fail))
              refine wpQuiet_nil ?_
              go_wp2
              refine ⟨rfl, ?_⟩
              have hq : PLoc E lev b w B v most (World.drew (W1.setCell ⟨E.xb, 4 + oi.toNat, none⟩ (.int .i64 (mo + d)))) sent ⟨(rr.2.much.set i.toNat (mj - d)).set oi.toNat (mo + d), rr.2.dead⟩ ∧ (W1.setCell ⟨E.xb, 4 + oi.toNat, none⟩ (.int .i64 (mo + d))).drew.heap[D + 1]? = some (.loop rb) ∧ (W1.setCell ⟨E.xb, 4 + oi.toNat, none⟩ (.int .i64 (mo + d))).drew.heap[D]? = some (.deferred (some [])) ∧ (W1.setCell ⟨E.xb, 4 + oi.toNat, none⟩ (.int .i64 (mo + d))).drew.heap[bx]? = some (.cells #[.pointer (some ⟨E.xb, 0, none⟩)] 53 (0, 0)) :=
                ⟨hS1.out, blk_other (show W1.heap[D + 1]? = _ from H5.out.1) _ _ (blk_ne H5.out.1 HS.out.mem.xbb (by simp [Env.block])), blk_other (show W1.heap[D]? = _ from H5.out.2.1) _ _ (blk_ne H5.out.2.1 HS.out.mem.xbb (by simp [Env.block])), blk_other (show W1.heap[bx]? = _ from H5.out.2.2) _ _ (blk_ne H5.out.2.2 HS.out.mem.xbb (by simp [Env.block]))⟩
              clear HS H5 hS1 hmo hfo cpx
              generalize (W1.setCell ⟨E.xb, 4 + oi.toNat, none⟩ (.int .i64 (mo + d))).drew = W2 at hq ⊢
              clear W1
              obtain ⟨hS, hl', hD', hbx'⟩ := hq
              have cm := blk_cell hS.mb 0
              have cs := blk_cell hS.sb 0
              have fs := blk_free hS.sb 0
              simp only [List.getElem?_toArray, List.getElem?_cons_zero] at cm cs
              have HS := Aside0.mk hS
              have H5 := Aside0.mk (And.intro hl' (And.intro hD' hbx'))
              have hS1 := Aside0.mk (hS.setSent (sent + d))
              have hS3 := Aside0.mk ((hS.setSent (sent + d)).setSent (sent + d))
              have nl : D + 1 ≠ B + 1 + 1 := blk_ne hl' hS.sb (by simp)
              have nD : D ≠ B + 1 + 1 := blk_ne hD' hS.sb (by simp)
              have nx : bx ≠ B + 1 + 1 := blk_ne hbx' hS.sb (by simp)
              have HNN := Aside0.mk (And.intro nl (And.intro nD nx))
              clear hS hl' hD' hbx' nl nD nx
              have HSU2 := Aside0.mk (HSU.out.trans HPA.out)
              by_cases hfull : sent + d = most
              · have hdf : (sent + d == most) = true := by simpa using hfull
                have HFU := Aside0.mk hfull
                clear hfull
                gi_wp2
                obtain ⟨hl', hD', hbx'⟩ := H5.out
                obtain ⟨n1, n2, n3⟩ := HNN.out
                have hl6 : ((W2.setCell ⟨B + 1 + 1, 0, none⟩ (.int .i64 (sent + d))).setCell ⟨B + 1 + 1, 0, none⟩ (.int .i64 (sent + d))).heap[D + 1]? = some (.loop rb) := blk_other (blk_other hl' _ _ n1) _ _ n1
                have hD6 : ((W2.setCell ⟨B + 1 + 1, 0, none⟩ (.int .i64 (sent + d))).setCell ⟨B + 1 + 1, 0, none⟩ (.int .i64 (sent + d))).heap[D]? = some (.deferred (some [])) := blk_other (blk_other hD' _ _ n2) _ _ n2
                refine round_ret2 hl6 (fun r hr2 hr3 => .inr ⟨rfl, r, ?_⟩)
                have hst : pushTake E.l lev E.out E.t n v most st (k + 1) = (sent + d, ⟨(rr.2.much.set i.toNat (mj - d)).set oi.toNat (mo + d), rr.2.dead⟩, true) := by
                  rw [HSU2.out, HFU.out]; simp
                have hdn : pushTake E.l lev E.out E.t n v most st (E.out v).length = (sent + d, ⟨(rr.2.much.set i.toNat (mj - d)).set oi.toNat (mo + d), rr.2.dead⟩, true) := by
                  rw [← hst]; exact pushTake_done (by rw [hst])
                rw [hdn]
                exact ⟨hS3.out.putObj hl6 (by omega) _, rfl, World.putObj_heap_same (blk_lt hl6), hr2, hr3, (World.putObj_heap_other (by omega)).trans hD6⟩
              · have hdf : (sent + d == most) = false := by simpa using hfull
                have HFU := Aside0.mk hfull
                clear hfull
                gi_wp2
                obtain ⟨hl', hD', hbx'⟩ := H5.out
                obtain ⟨n1, n2, n3⟩ := HNN.out
                have hl6 : (W2.setCell ⟨B + 1 + 1, 0, none⟩ (.int .i64 (sent + d))).heap[D + 1]? = some (.loop rb) := blk_other hl' _ _ n1
                have hD6 : (W2.setCell ⟨B + 1 + 1, 0, none⟩ (.int .i64 (sent + d))).heap[D]? = some (.deferred (some [])) := blk_other hD' _ _ n2
                have hx6 := blk_other hbx' ⟨B + 1 + 1, 0, none⟩ (.int .i64 (sent + d)) n3
                refine round_on2 hl6 HRB.out (fun r hr1 hr2 hr3 => .inl ⟨rfl, r, ?_⟩)
                have hst : pushArc (push E.l lev E.out E.t n) E.l lev v most a i = (sent + d, ⟨(rr.2.much.set i.toNat (mj - d)).set oi.toNat (mo + d), rr.2.dead⟩, false) := by
                  rw [HPA.out]
                  have := HFU.out
                  simp [this]
                rw [hst]
                exact ⟨hS1.out.putObj hl6 (by omega) _, rfl, World.putObj_heap_same (blk_lt hl6), hr1, hr2, hr3, (World.putObj_heap_other (by omega)).trans hD6, (KeepBl.putObj hl6 _) _ _ hx6 (by simp)⟩
          · have hd0 : (x != y + 1) = true := by simpa using hxy
            gi_wp2
            refine region_quiet_round rfl (by kernel_rfl) (by kernel_rfl) ?_
            repeat (go_big_quiet_step (fail))
            refine wpQuiet_nil ?_
            rintro w' ⟨q, rfl⟩
            gi_wp2
            obtain ⟨hl', hD', hbx'⟩ := H5.out
            have hl6 : (W'.drewN q).heap[D + 1]? = some (.loop rb) := hl'
            refine round_on2 hl6 HRB.out (fun r hr1 hr2 hr3 => .inl ⟨rfl, r, ?_⟩)
            have hst : pushArc (push E.l lev E.out E.t n) E.l lev v most a i = a := by
              unfold pushArc
              rw [if_neg (by rw [HGO.out]; simp), if_neg (by have := hpa; omega), if_pos (.inl (by rw [HLX.out.1, HLX.out.2.1]; exact hxy))]
            rw [hst]
            exact ⟨(HS.out.drewN q).putObj hl6 (by omega) _, HGO.out, World.putObj_heap_same (blk_lt hl6), hr1, hr2, hr3, (World.putObj_heap_other (by omega)).trans hD', (KeepBl.putObj hl6 _) _ _ hbx' (by simp)⟩
        · refine ⟨r, ?_⟩
          rw [show pushTake E.l lev E.out E.t n v most st (k + 1) = a by rw [hsucc]; unfold pushArc; rw [if_neg (by rw [hJk.go]; simp), if_pos hneg]]
          exact hJk
      case hpost =>
        rintro e W' ⟨hv, ⟨r, hJ⟩ | ⟨r, hX⟩⟩
        · refine ⟨hv, r, hJ.hl, by rw [hJ.rdy]; simp, ?_⟩
          rw [hJ.pen]
          simp only [jumpPost]
          have HL5 := Aside0.mk (hJ.p.putObj hJ.hl (by omega) (.loop { r with state := .exhausted }))
          have hD5 : Aside0 ((W'.putObj (D + 1) (.loop { r with state := .exhausted })).heap[D]? = some (.deferred (some []))) := ⟨(World.putObj_heap_other (by omega)).trans hJ.hD⟩
          rw [hJ.pen] at HL5 hD5
          generalize W'.putObj (D + 1) _ = W5 at HL5 hD5 ⊢
          have hpt := push_take E.l lev E.out E.t n v most st HVT.out
          rw [if_neg (by rw [hJ.go]; simp)] at hpt
          have HPT := Aside0.mk hpt
          have HDL := Aside0.mk ((pushTake_ok (N := E.N) (most := most) hN64 HOK.out.hl HHD.out (fun u => (HLEV.out.2 u).1) HOK.out.ht.1 HINV.out hm0 hv0 HVT.out HN.out (E.out v).length).keep.inv.dl)
          rw [← (funext HE.out : E.out = outK E.l E.l.length)] at HDL
          clear hJ hv hov hbv4 hJ4 hpt
          generalize pushTake E.l lev E.out E.t n v most st (E.out v).length = a at HL5 HPT HDL
          have cB := blk_cell HL5.out.vb 0
          have cs := blk_cell HL5.out.sb 0
          have fs := blk_free HL5.out.sb 0
          have fd := blk_free HL5.out.mem.dbb v.toNat
          have cd := blk_cell HL5.out.mem.dbb v.toNat
          rw [boolsOf_get _ _ (by rw [HDL.out]; omega)] at cd
          generalize a.2.1.dead.getD v.toNat false = dv at cd
          simp only [List.getElem?_toArray, List.getElem?_cons_zero] at cB cs
          have hne : b.db ≠ B + 1 + 1 := blk_ne HL5.out.mem.dbb HL5.out.sb (by simp)
          have hne' : B + 1 + 1 ≠ b.db := Ne.symm hne
          go_wp2
          have hL6 := (HL5.out.setDead v.toNat true).setSent a.1
          have hD6 : ((W5.setCell ⟨b.db, v.toNat, none⟩ (.bool true)).setCell ⟨B + 1 + 1, 0, none⟩ (.int .i64 a.1)).heap[D]? = some (.deferred (some [])) := by
            have n1 : D ≠ b.db := blk_ne hD5.out HL5.out.mem.dbb (by simp)
            have n2 : D ≠ B + 1 + 1 := blk_ne hD5.out HL5.out.sb (by simp)
            exact blk_other (blk_other hD5.out _ _ n1) _ _ n2
          refine leaves_marks (fn := Try.f29) [D] _ (by simp) (fun D' hD' => by rw [List.mem_singleton] at hD'; subst hD'; exact hD6) ?_
          intro w' hc
          have hk := mark_keeps hc hD6
          refine ⟨_, results_cell_int rfl _ _ (B + 1 + 1) a.1 rfl (hk _ _ _ _ hL6.sb) (fun w hw => ?_), ?_⟩
          · simp [go_sem, hw]
          · rw [HPT.out]; exact ⟨rfl, hL6.ch.trans hc (fun i hi => .inr (by rw [List.mem_singleton] at hi; subst hi; exact hszw)), hL6.mem.moveC hk⟩
        · refine ⟨hv, r, hX.hl, by rw [hX.rdy]; simp, ?_⟩
          rw [hX.pen]
          simp only [jumpPost]
          have HL5 := Aside0.mk (hX.p.putObj hX.hl (by omega) (.loop { r with state := .exhausted }))
          have hD5 : Aside0 ((W'.putObj (D + 1) (.loop { r with state := .exhausted })).heap[D]? = some (.deferred (some []))) := ⟨(World.putObj_heap_other (by omega)).trans hX.hD⟩
          rw [hX.pen] at HL5 hD5
          generalize W'.putObj (D + 1) _ = W5 at HL5 hD5 ⊢
          have hpt := push_take E.l lev E.out E.t n v most st HVT.out
          rw [if_pos hX.stop] at hpt
          have HPT := Aside0.mk hpt
          clear hX hv hov hbv4 hJ4 hpt
          generalize pushTake E.l lev E.out E.t n v most st (E.out v).length = a at HL5 HPT
          go_wp2
          refine leaves_marks (fn := Try.f29) [D] _ (by simp) (fun D' hD' => by rw [List.mem_singleton] at hD'; subst hD'; exact hD5.out) ?_
          intro w' hc
          have hk := mark_keeps hc hD5.out
          refine ⟨_, results_cell_int rfl _ _ (B + 1 + 1) a.1 rfl (hk _ _ _ _ HL5.out.sb) (fun w hw => ?_), ?_⟩
          · simp [go_sem, hw]
          · rw [HPT.out]; exact ⟨rfl, HL5.out.ch.trans hc (fun i hi => .inr (by rw [List.mem_singleton] at hi; subst hi; exact hszw)), HL5.out.mem.moveC hk⟩
end Go.Proofs.Ytipfpckjgfjehaa

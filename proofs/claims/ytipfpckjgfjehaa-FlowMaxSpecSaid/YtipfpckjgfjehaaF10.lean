/-
  fastilaw13.sane: the walk.
-/
import Derived.Test.YtipfpckjgfjehaaF9
import Derived.Test.YtipfpckjgfjehaaP6
namespace Go.Proofs.Ytipfpckjgfjehaa
set_option linter.unusedVariables false
set_option linter.unusedSimpArgs false
open Go.RowKit PFlowMaxSpec Go.Proofs.YtipfpckjgfjehaaW.PrintWords
attribute [local go_sem] Oper.semAt_some

/-- A network in a variable of the call's own. -/
structure NV (w W : World) (p : Nat) (n : Int) (A : Option Addr) (c : Nat) (l : List S43) : Prop where
  blk : W.heap[p]? = some (.cells #[.int .i64 n, .int .i64 0, .int .i64 (n - 1), .slice A l.length c] 24 (0, 0))
  arcs : k43.C W A l.length l
theorem NV.move {w W W' : World} {p : Nat} {n : Int} {A : Option Addr} {c : Nat} {l : List S43} (h : NV w W p n A c l) (hc : Ch [] W W') : NV w W' p n A c l := ⟨hc.at h.blk (by simp), Kd.C_below h.arcs hc.below⟩
/-- What sane holds in the end. -/
structure SG (w W : World) (p1 p2 p3 : Nat) (A1 A2 A3 : Option Addr) (x4 : List Int) (B1 B2 : Option Addr) (c2 : Nat) (B3 B4 : Option Addr) (c4 : Nat) (B6 : Option Addr) (c6 : Nat) : Prop where
  ch : Ch [] w W
  n4 : NV w W p1 4 A1 5 l4
  n3 : NV w W p2 3 A2 2 l3
  n2 : NV w W p3 2 A3 1 l1
  x4 : (Kd.int .i64).C W B1 x4.length x4
  s4 : Kd.bool.C W B2 4 [true, false, false, false]
  k4 : 4 ≤ c2
  x3 : (Kd.int .i64).C W B3 2 [4, 4]
  s3 : Kd.bool.C W B4 3 [true, true, false]
  k3 : 3 ≤ c4
  s2 : Kd.bool.C W B6 2 [true, false]
  k2 : 2 ≤ c6
theorem SG.move {w W W' : World} {p1 p2 p3 : Nat} {A1 A2 A3 : Option Addr} {x4 : List Int} {B1 B2 : Option Addr} {c2 : Nat} {B3 B4 : Option Addr} {c4 : Nat} {B6 : Option Addr} {c6 : Nat} (h : SG w W p1 p2 p3 A1 A2 A3 x4 B1 B2 c2 B3 B4 c4 B6 c6) (hc : Ch [] W W') :
    SG w W' p1 p2 p3 A1 A2 A3 x4 B1 B2 c2 B3 B4 c4 B6 c6 :=
  ⟨h.ch.trans hc (by simp), h.n4.move hc, h.n3.move hc, h.n2.move hc, Kd.C_below h.x4 hc.below, Kd.C_below h.s4 hc.below, h.k4, Kd.C_below h.x3 hc.below, Kd.C_below h.s3 hc.below, h.k3, Kd.C_below h.s2 hc.below, h.k2⟩
theorem same_4 : fastiref13_Same.f 10 [true, false, false, false] [true, false, false, false] = some true := by decide +kernel
theorem same_3 : fastiref13_Same.f 10 [true, true, false] [true, true, false] = some true := by decide +kernel
theorem same_2 : fastiref13_Same.f 10 [true, false] [true, false] = some true := by decide +kernel
theorem make_513 : ∃ big : Array Value, ∀ W : World, (Instr.makeSlice 22 (.int .i64 513) (.int .i64 513)).run Try.prog W = .ok (.slice (some ⟨W.heap.size, 0, none⟩) 513 513) (W.alloc (.cells big 43)) := by
  have hinfo : (Try.prog.info? 43).map (fun i => (i.zero, i.size, i.bytes)) = some (some (.agg #[.int .i64 0, .int .i64 0, .int .i64 0]), 3, 24) := by kernel_rfl
  obtain ⟨i0, hi, hz0, hz1, hz2⟩ := info_parts hinfo
  exact ⟨_, fun W => run_makeSlice W 22 43 i0 _ Try.underlying22 hi hz0 .i64 .i64 513 513 (by decide) (by decide) (by rw [hz1]; decide) (by rw [hz2]; decide) (by decide)⟩
theorem Ch.al (w : World) (o : Obj) : Ch [] w (w.alloc o) := (Ch.refl _ _).alloc _


set_option maxHeartbeats 1000000 in
set_option maxRecDepth 100000 in
theorem sane_calls (w : World) : Calls Try.prog 10 #[] w fun e w' => e = .returned (.bool true) ∧ Ch [] w w' := by
  have arcs_lit : ∀ (l : List S43) (W : World) (o : Obj), o = .cells (arcsOf l) 43 (0, 0) → l.length ≤ 10 → k43.C (W.alloc o) (some ⟨W.heap.size, 0, none⟩) l.length l := fun l W o h hl => by
    subst h; exact C_arcs (blk_new _ _) (by omega)
  have ARC := Aside0.mk arcs_lit
  clear arcs_lit
  go_enter Try.func10, Try.ntmps10
  go_upto_region 2 with (go_at_call 23; refine (net_calls 4 _ _ _ _ (by decide) (by decide)).mono ?_; rintro e u1 ⟨rfl, hc⟩; have HK1 := Aside0.mk hc; clear hc)
  obtain ⟨p1, hp1⟩ : ∃ p, p = u1.heap.size := ⟨_, rfl⟩
  refine wp_abs (fun W => Ch [] w W ∧ NV w W p1 4 (some ⟨w.heap.size, 0, none⟩) 5 l4) ⟨((Ch.al _ _).trans HK1.out (by simp)).alloc _, by rw [hp1]; exact blk_new _ _, Kd.C_alloc (Kd.C_below (ARC.out l4 _ _ rfl (by decide)) HK1.out.below) _⟩ ?_
  rw [← hp1]
  intro W1 hW1
  have HW1 := Aside0.mk hW1
  clear hW1 hp1 HK1 u1
  go_upto_region 3 with (go_at_call 23; refine (net_calls 3 _ _ _ _ (by decide) (by decide)).mono ?_; rintro e u2 ⟨rfl, hc⟩; have HK2 := Aside0.mk hc; clear hc)
  obtain ⟨p2, hp2⟩ : ∃ p, p = u2.heap.size := ⟨_, rfl⟩
  refine wp_abs (fun W => Ch [] W1 W ∧ NV w W p2 3 (some ⟨W1.heap.size, 0, none⟩) 2 l3) ⟨((Ch.al _ _).trans HK2.out (by simp)).alloc _, by rw [hp2]; exact blk_new _ _, Kd.C_alloc (Kd.C_below (ARC.out l3 _ _ rfl (by decide)) HK2.out.below) _⟩ ?_
  rw [← hp2]
  intro W2 hW2
  have HW2 := Aside0.mk hW2
  clear hW2 hp2 HK2 u2
  go_upto_region 4 with (go_at_call 23; refine (net_calls 2 _ _ _ _ (by decide) (by decide)).mono ?_; rintro e u3 ⟨rfl, hc⟩; have HK3 := Aside0.mk hc; clear hc)
  obtain ⟨p3, hp3⟩ : ∃ p, p = u3.heap.size := ⟨_, rfl⟩
  refine wp_abs (fun W => Ch [] W2 W ∧ NV w W p3 2 (some ⟨W2.heap.size, 0, none⟩) 1 l1) ⟨((Ch.al _ _).trans HK3.out (by simp)).alloc _, by rw [hp3]; exact blk_new _ _, Kd.C_alloc (Kd.C_below (ARC.out l1 _ _ rfl (by decide)) HK3.out.below) _⟩ ?_
  rw [← hp3]
  intro W3 hW3
  have HW3 := Aside0.mk hW3
  clear hW3 hp3 HK3 u3
  have HS := Aside0.mk (show Ch [] w W3 ∧ NV w W3 p1 4 (some ⟨w.heap.size, 0, none⟩) 5 l4 ∧ NV w W3 p2 3 (some ⟨W1.heap.size, 0, none⟩) 2 l3 ∧ NV w W3 p3 2 (some ⟨W2.heap.size, 0, none⟩) 1 l1 from
    ⟨(HW1.out.1.trans HW2.out.1 (by simp)).trans HW3.out.1 (by simp), (HW1.out.2.move HW2.out.1).move HW3.out.1, HW2.out.2.move HW3.out.1, HW3.out.2⟩)
  clear HW1 HW2 HW3
  generalize hg1 : (some ⟨w.heap.size, 0, none⟩ : Option Addr) = A1 at HS ⊢
  generalize hg2 : (some ⟨W1.heap.size, 0, none⟩ : Option Addr) = A2 at HS ⊢
  generalize hg3 : (some ⟨W2.heap.size, 0, none⟩ : Option Addr) = A3 at HS ⊢
  clear hg1 hg2 hg3 ARC
  have CHK4 := Aside0.mk chk_l4
  have CHK3 := Aside0.mk chk_l3
  have k0 : W3.cell? ⟨p1, 0, none⟩ = some (.int .i64 4) := (blk_cell (HS.out.2.1).blk 0).trans rfl
  have k1 : W3.cell? ⟨p1, 1, none⟩ = some (.int .i64 0) := (blk_cell (HS.out.2.1).blk 1).trans rfl
  have k2 : W3.cell? ⟨p1, 2, none⟩ = some (.int .i64 3) := (blk_cell (HS.out.2.1).blk 2).trans rfl
  have k3 : W3.cell? ⟨p1, 3, none⟩ = some (.slice A1 5 5) := (blk_cell (HS.out.2.1).blk 3).trans rfl
  go_upto_region 5 with (go_at_call 18; refine (max_calls2 4 0 3 A1 5 l4 _ HS.out.2.1.arcs CHK4.out).mono ?_; rintro e v4 ⟨B1, c1, B2, c2, x4, s4, rfl, hc, hm, hx, hs, hle⟩; obtain ⟨h5, rfl⟩ := max_l4 hm; have HQ := Aside0.mk (And.intro hc (And.intro hm (And.intro hx (And.intro hs (And.intro hle h5))))); clear hc hm hx hs hle h5)
  have HS4 := Aside0.mk (show Ch [] w v4 ∧ NV w v4 p1 4 A1 5 l4 ∧ NV w v4 p2 3 A2 2 l3 ∧ NV w v4 p3 2 A3 1 l1 ∧ MaxRes 4 0 3 l4 x4 [true, false, false, false] ∧ (Kd.int .i64).C v4 B1 x4.length x4 ∧ Kd.bool.C v4 B2 4 [true, false, false, false] ∧ 4 ≤ c2 ∧ sur l4 x4 0 = 5 from
    ⟨HS.out.1.trans HQ.out.1 (by simp), HS.out.2.1.move HQ.out.1, HS.out.2.2.1.move HQ.out.1, HS.out.2.2.2.move HQ.out.1, HQ.out.2⟩)
  clear HS HQ k0 k1 k2 k3
  have k0 : v4.cell? ⟨p2, 0, none⟩ = some (.int .i64 3) := (blk_cell (HS4.out.2.2.1).blk 0).trans rfl
  have k1 : v4.cell? ⟨p2, 1, none⟩ = some (.int .i64 0) := (blk_cell (HS4.out.2.2.1).blk 1).trans rfl
  have k2 : v4.cell? ⟨p2, 2, none⟩ = some (.int .i64 2) := (blk_cell (HS4.out.2.2.1).blk 2).trans rfl
  have k3 : v4.cell? ⟨p2, 3, none⟩ = some (.slice A2 2 2) := (blk_cell (HS4.out.2.2.1).blk 3).trans rfl
  go_upto_region 6 with (go_at_call 18; refine (max_calls2 3 0 2 A2 2 l3 _ HS4.out.2.2.1.arcs CHK3.out).mono ?_; rintro e v5 ⟨B3, c3, B4, c4, x3, s3, rfl, hc, hm, hx, hs, hle⟩; obtain ⟨rfl, rfl⟩ := max_l3 hm; have HQ := Aside0.mk (And.intro hc (And.intro hx (And.intro hs hle))); clear hc hm hx hs hle)
  have HS5 := Aside0.mk (show Ch [] w v5 ∧ NV w v5 p1 4 A1 5 l4 ∧ NV w v5 p2 3 A2 2 l3 ∧ NV w v5 p3 2 A3 1 l1 ∧ MaxRes 4 0 3 l4 x4 [true, false, false, false] ∧ (Kd.int .i64).C v5 B1 x4.length x4 ∧ Kd.bool.C v5 B2 4 [true, false, false, false] ∧ 4 ≤ c2 ∧ sur l4 x4 0 = 5 ∧ (Kd.int .i64).C v5 B3 2 [4, 4] ∧ Kd.bool.C v5 B4 3 [true, true, false] ∧ 3 ≤ c4 from
    ⟨HS4.out.1.trans HQ.out.1 (by simp), HS4.out.2.1.move HQ.out.1, HS4.out.2.2.1.move HQ.out.1, HS4.out.2.2.2.1.move HQ.out.1, HS4.out.2.2.2.2.1, Kd.C_below HS4.out.2.2.2.2.2.1 HQ.out.1.below, Kd.C_below HS4.out.2.2.2.2.2.2.1 HQ.out.1.below, HS4.out.2.2.2.2.2.2.2.1, HS4.out.2.2.2.2.2.2.2.2, HQ.out.2⟩)
  clear HS4 HQ k0 k1 k2 k3
  have CHK0 := Aside0.mk chk_l0
  go_upto_region 7 with (first | (go_at_call 23; refine (net_calls 2 none 0 0 _ (by decide) (by decide)).mono ?_; rintro e n6 ⟨rfl, hcn⟩; have HCN := Aside0.mk hcn; clear hcn) | (go_at_call 18; refine (max_calls2 2 0 1 none 0 [] _ (Kd.C_nil _ _) CHK0.out).mono ?_; rintro e v6 ⟨B5, c5, B6, c6, x2, s2, rfl, hc, hm, hx, hs, hle⟩; obtain ⟨rfl, rfl⟩ := max_l0 hm; have HQ := Aside0.mk (And.intro (HCN.out.trans hc (by simp)) (And.intro hs hle)); clear hc hm hx hs hle HCN))
  have HS6 := Aside0.mk (show Ch [] w v6 ∧ NV w v6 p1 4 A1 5 l4 ∧ NV w v6 p2 3 A2 2 l3 ∧ NV w v6 p3 2 A3 1 l1 ∧ MaxRes 4 0 3 l4 x4 [true, false, false, false] ∧ (Kd.int .i64).C v6 B1 x4.length x4 ∧ Kd.bool.C v6 B2 4 [true, false, false, false] ∧ 4 ≤ c2 ∧ sur l4 x4 0 = 5 ∧ (Kd.int .i64).C v6 B3 2 [4, 4] ∧ Kd.bool.C v6 B4 3 [true, true, false] ∧ 3 ≤ c4 ∧ Kd.bool.C v6 B6 2 [true, false] ∧ 2 ≤ c6 from
    ⟨HS5.out.1.trans HQ.out.1 (by simp), HS5.out.2.1.move HQ.out.1, HS5.out.2.2.1.move HQ.out.1, HS5.out.2.2.2.1.move HQ.out.1, HS5.out.2.2.2.2.1, Kd.C_below HS5.out.2.2.2.2.2.1 HQ.out.1.below, Kd.C_below HS5.out.2.2.2.2.2.2.1 HQ.out.1.below, HS5.out.2.2.2.2.2.2.2.1, HS5.out.2.2.2.2.2.2.2.2.1, Kd.C_below HS5.out.2.2.2.2.2.2.2.2.2.1 HQ.out.1.below, Kd.C_below HS5.out.2.2.2.2.2.2.2.2.2.2.1 HQ.out.1.below, HS5.out.2.2.2.2.2.2.2.2.2.2.2, HQ.out.2⟩)
  clear HS5 HQ
  have HV4 := Aside0.mk (show val 4 0 3 l4 x4 = (5, 0) by rw [val_of_max chk_l4 HS6.out.2.2.2.2.1, HS6.out.2.2.2.2.2.2.2.2.1])
  have HG := Aside0.mk (show SG w v6 p1 p2 p3 A1 A2 A3 x4 B1 B2 c2 B3 B4 c4 B6 c6 from ⟨HS6.out.1, HS6.out.2.1, HS6.out.2.2.1, HS6.out.2.2.2.1, HS6.out.2.2.2.2.2.1, HS6.out.2.2.2.2.2.2.1, HS6.out.2.2.2.2.2.2.2.1, HS6.out.2.2.2.2.2.2.2.2.2.1, HS6.out.2.2.2.2.2.2.2.2.2.2.1, HS6.out.2.2.2.2.2.2.2.2.2.2.2.1, HS6.out.2.2.2.2.2.2.2.2.2.2.2.2.1, HS6.out.2.2.2.2.2.2.2.2.2.2.2.2.2⟩)
  have HX5 := Aside0.mk (show x4.length ≤ 1000000 by rw [HS6.out.2.2.2.2.1.flow.1]; decide)
  obtain ⟨ad3, hb3, q0⟩ := at_gi HG.out.x3 0 (by decide) (by decide)
  obtain ⟨_, hb3', q1⟩ := at_gi HG.out.x3 1 (by decide) (by decide)
  rw [hb3] at hb3'
  cases hb3'
  subst hb3
  have e0 : ad3.add (0 : Int).toNat = ad3 := rfl
  rw [e0] at q0
  have q0' : v6.cell? ad3 = some (.int .i64 4) := q0
  have q1' : v6.cell? ⟨ad3.block, ad3.off + 1, none⟩ = some (.int .i64 4) := q1
  clear HS6 q0 q1 e0
  have k0 : v6.cell? ⟨p1, 0, none⟩ = some (.int .i64 4) := (blk_cell (HG.out.n4).blk 0).trans rfl
  have k1 : v6.cell? ⟨p1, 1, none⟩ = some (.int .i64 0) := (blk_cell (HG.out.n4).blk 1).trans rfl
  have k2 : v6.cell? ⟨p1, 2, none⟩ = some (.int .i64 3) := (blk_cell (HG.out.n4).blk 2).trans rfl
  have k3 : v6.cell? ⟨p1, 3, none⟩ = some (.slice A1 5 5) := (blk_cell (HG.out.n4).blk 3).trans rfl
  go_upto_region 10 with (go_at_call 11; refine (value_calls 4 0 3 A1 5 l4 B1 c1 x4 _ HG.out.n4.arcs (by decide) HG.out.x4 (by have := HX5.out; omega)).mono ?_; rintro e v7 ⟨he, hc⟩; rw [HV4.out] at he; subst he; have HQ := Aside0.mk hc; clear hc)
  have HG7 := Aside0.mk (HG.out.move HQ.out)
  clear HG HQ q0' q1' k0 k1 k2 k3
  have VB1 := Aside0.mk val_l1
  have CB1 := Aside0.mk cut_l1
  have VB3 := Aside0.mk val_l3
  have CB3 := Aside0.mk cut_l3
  have k0 : v7.cell? ⟨p3, 0, none⟩ = some (.int .i64 2) := (blk_cell (HG7.out.n2).blk 0).trans rfl
  have k1 : v7.cell? ⟨p3, 1, none⟩ = some (.int .i64 0) := (blk_cell (HG7.out.n2).blk 1).trans rfl
  have k2 : v7.cell? ⟨p3, 2, none⟩ = some (.int .i64 1) := (blk_cell (HG7.out.n2).blk 2).trans rfl
  have k3 : v7.cell? ⟨p3, 3, none⟩ = some (.slice A3 1 1) := (blk_cell (HG7.out.n2).blk 3).trans rfl
  have kb := blk_lt (HG7.out.n2).blk
  go_upto_region 11 with (go_at_call 11; refine (value_calls 2 0 1 A3 1 l1 (some ⟨v7.heap.size, 0, none⟩) 1 [2] _ (Kd.C_alloc HG7.out.n2.arcs _) (by decide) (C_ints (blk_new v7 (.cells (intsOf [2]) 3)) (by decide)) (by decide)).mono ?_; rintro e v8 ⟨he, hc⟩; rw [VB1.out] at he; subst he; have HQ := Aside0.mk ((Ch.al v7 (.cells (intsOf [2]) 3)).trans hc (by simp)); clear hc)
  have HG8 := Aside0.mk (HG7.out.move HQ.out)
  clear HG7 HQ k0 k1 k2 k3 kb
  have k0 : v8.cell? ⟨p3, 0, none⟩ = some (.int .i64 2) := (blk_cell (HG8.out.n2).blk 0).trans rfl
  have k1 : v8.cell? ⟨p3, 1, none⟩ = some (.int .i64 0) := (blk_cell (HG8.out.n2).blk 1).trans rfl
  have k2 : v8.cell? ⟨p3, 2, none⟩ = some (.int .i64 1) := (blk_cell (HG8.out.n2).blk 2).trans rfl
  have k3 : v8.cell? ⟨p3, 3, none⟩ = some (.slice A3 1 1) := (blk_cell (HG8.out.n2).blk 3).trans rfl
  have kb := blk_lt (HG8.out.n2).blk
  go_upto_region 14 with (go_at_call 13; refine (cut_calls 2 0 1 A3 1 l1 (some ⟨v8.heap.size, 0, none⟩) 2 [true, false] _ (Kd.C_alloc HG8.out.n2.arcs _) (by decide) (C_bools (blk_new v8 (.cells (boolsOf [true, false]) 4)) (by decide)) (by decide)).mono ?_; rintro e v9 ⟨he, hc⟩; rw [CB1.out] at he; subst he; have HQ := Aside0.mk ((Ch.al v8 (.cells (boolsOf [true, false]) 4)).trans hc (by simp)); clear hc)
  have HG9 := Aside0.mk (HG8.out.move HQ.out)
  clear HG8 HQ k0 k1 k2 k3 kb
  have k0 : v9.cell? ⟨p2, 0, none⟩ = some (.int .i64 3) := (blk_cell (HG9.out.n3).blk 0).trans rfl
  have k1 : v9.cell? ⟨p2, 1, none⟩ = some (.int .i64 0) := (blk_cell (HG9.out.n3).blk 1).trans rfl
  have k2 : v9.cell? ⟨p2, 2, none⟩ = some (.int .i64 2) := (blk_cell (HG9.out.n3).blk 2).trans rfl
  have k3 : v9.cell? ⟨p2, 3, none⟩ = some (.slice A2 2 2) := (blk_cell (HG9.out.n3).blk 3).trans rfl
  have kb := blk_lt (HG9.out.n3).blk
  go_upto_region 15 with (go_at_call 11; refine (value_calls 3 0 2 A2 2 l3 (some ⟨v9.heap.size, 0, none⟩) 2 [4, 3] _ (Kd.C_alloc HG9.out.n3.arcs _) (by decide) (C_ints (blk_new v9 (.cells (intsOf [4, 3]) 3)) (by decide)) (by decide)).mono ?_; rintro e v10 ⟨he, hc⟩; rw [VB3.out] at he; subst he; have HQ := Aside0.mk ((Ch.al v9 (.cells (intsOf [4, 3]) 3)).trans hc (by simp)); clear hc)
  have HG10 := Aside0.mk (HG9.out.move HQ.out)
  clear HG9 HQ k0 k1 k2 k3 kb
  have k0 : v10.cell? ⟨p2, 0, none⟩ = some (.int .i64 3) := (blk_cell (HG10.out.n3).blk 0).trans rfl
  have k1 : v10.cell? ⟨p2, 1, none⟩ = some (.int .i64 0) := (blk_cell (HG10.out.n3).blk 1).trans rfl
  have k2 : v10.cell? ⟨p2, 2, none⟩ = some (.int .i64 2) := (blk_cell (HG10.out.n3).blk 2).trans rfl
  have k3 : v10.cell? ⟨p2, 3, none⟩ = some (.slice A2 2 2) := (blk_cell (HG10.out.n3).blk 3).trans rfl
  have kb := blk_lt (HG10.out.n3).blk
  go_upto_region 16 with (go_at_call 13; refine (cut_calls 3 0 2 A2 2 l3 (some ⟨v10.heap.size, 0, none⟩) 3 [true, true, true] _ (Kd.C_alloc HG10.out.n3.arcs _) (by decide) (C_bools (blk_new v10 (.cells (boolsOf [true, true, true]) 4)) (by decide)) (by decide)).mono ?_; rintro e v11 ⟨he, hc⟩; rw [CB3.out] at he; subst he; have HQ := Aside0.mk ((Ch.al v10 (.cells (boolsOf [true, true, true]) 4)).trans hc (by simp)); clear hc)
  have HG11 := Aside0.mk (HG10.out.move HQ.out)
  clear HG10 HQ k0 k1 k2 k3 kb
  have CO := Aside0.mk chk_one
  have CZ := Aside0.mk chk_z
  have CA := Aside0.mk arg_2
  obtain ⟨big, hmk⟩ := make_513
  go_wp2_with (first | (go_at_call 23; have hh := HG11.out; refine (net_calls 1 none 0 0 v11 (by decide) (by decide)).mono ?_; rintro e v12 ⟨rfl, hc⟩; have HG12 := Aside0.mk (HG11.out.move hc); clear hh hc HG11) | (go_at_call 15; have hh := HG12.out; refine (check_calls 1 0 0 none 0 [] v12 (Kd.C_nil _ _) (by decide)).mono ?_; rintro e v13 ⟨he, hc⟩; rw [CO.out] at he; subst he; have HG13 := Aside0.mk (HG12.out.move hc); clear hh hc HG12) | (go_at_call 23; have hh := HG13.out; refine (net_calls 2 (some ⟨v13.heap.size, 0, none⟩) 1 1 (v13.alloc (.cells (arcsOf [z43]) 43)) (by decide) (by decide)).mono ?_; rintro e v14 ⟨rfl, hc⟩; have HZ := Aside0.mk (Kd.C_below (C_arcs (l := [z43]) (blk_new v13 (.cells (arcsOf [z43]) 43)) (by decide)) hc.below); have HG14 := Aside0.mk (HG13.out.move ((Ch.al v13 _).trans hc (by simp))); clear hh hc HG13) | (go_at_call 15; have hh := HG14.out; refine (check_calls 2 0 1 (some ⟨v13.heap.size, 0, none⟩) 1 [z43] v14 HZ.out (by decide)).mono ?_; rintro e v15 ⟨he, hc⟩; rw [CZ.out] at he; subst he; have HG15 := Aside0.mk (HG14.out.move hc); clear hh hc HG14 HZ) | (go_at_call 23; have hh := HG15.out; refine (net_calls 2 (some ⟨v15.heap.size, 0, none⟩) 513 513 (v15.alloc (.cells big 43)) (by decide) (by decide)).mono ?_; rintro e v16 ⟨rfl, hc⟩; have HG16 := Aside0.mk (HG15.out.move ((Ch.al v15 _).trans hc (by simp))); clear hh hc HG15) | (go_at_call 15; have hh := HG16.out; refine (check_many 2 0 1 (some ⟨v15.heap.size, 0, none⟩) 513 513 v16 CA.out (by decide) (by decide)).mono ?_; rintro e v17 ⟨rfl, hc⟩; have HG17 := Aside0.mk (HG16.out.move hc); clear hh hc HG16) | (go_at_call 21; have hh := HG17.out; refine (fastiref13_Same.calls 10 B2 c2 [true, false, false, false] (some ⟨v17.heap.size, 0, none⟩) 4 [true, false, false, false] true _ (Kd.C_alloc hh.s4 _) hh.k4 (C_bools (blk_new v17 (.cells (boolsOf [true, false, false, false]) 4)) (by decide)) (by decide) same_4).mono ?_; rintro e v18 ⟨rfl, hd⟩; have HG18 := Aside0.mk (hh.move ((Ch.al v17 _).trans (Ch.of_below hd.below []) (by simp))); clear hh hd HG17) | (go_at_call 21; have hh := HG18.out; refine (fastiref13_Same.calls 10 B4 c4 [true, true, false] (some ⟨v18.heap.size, 0, none⟩) 3 [true, true, false] true _ (Kd.C_alloc hh.s3 _) hh.k3 (C_bools (blk_new v18 (.cells (boolsOf [true, true, false]) 4)) (by decide)) (by decide) same_3).mono ?_; rintro e v19 ⟨rfl, hd⟩; have HG19 := Aside0.mk (hh.move ((Ch.al v18 _).trans (Ch.of_below hd.below []) (by simp))); clear hh hd HG18) | (go_at_call 21; have hh := HG19.out; refine (fastiref13_Same.calls 10 B6 c6 [true, false] (some ⟨v19.heap.size, 0, none⟩) 2 [true, false] true _ (Kd.C_alloc hh.s2 _) hh.k2 (C_bools (blk_new v19 (.cells (boolsOf [true, false]) 4)) (by decide)) (by decide) same_2).mono ?_; rintro e v20 ⟨rfl, hd⟩; have HG20 := Aside0.mk (hh.move ((Ch.al v19 _).trans (Ch.of_below hd.below []) (by simp))); clear hh hd HG19))
  go_ret
  exact ⟨rfl, HG20.out.ch⟩
end Go.Proofs.Ytipfpckjgfjehaa

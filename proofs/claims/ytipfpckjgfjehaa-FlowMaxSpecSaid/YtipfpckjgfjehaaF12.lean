/-
  fastilaw13.FlowDuality: the walk.
-/
import Derived.Test.YtipfpckjgfjehaaF11
import Derived.Test.YtipfpckjgfjehaaF5b
namespace Go.Proofs.Ytipfpckjgfjehaa
set_option linter.unusedVariables false
set_option linter.unusedSimpArgs false
open Go.RowKit PFlowMaxSpec Go.Proofs.YtipfpckjgfjehaaW.PrintWords
attribute [local go_sem] Oper.semAt_some

/-- What the head of a law holds: the network in its variable. -/
structure LH (N s t : Int) (A : Option Addr) (c : Nat) (l : List S43) (w W : World) (p : Nat) : Prop where
  ch : Ch [] w W
  blk : W.heap[p]? = some (.cells #[.int .i64 N, .int .i64 s, .int .i64 t, .slice A l.length c] 24 (0, 0))
  arcs : k43.C W A l.length l
section
variable {N s t : Int} {A : Option Addr} {c : Nat} {l : List S43} {w W W' : World} {p : Nat}
theorem LH.move (h : LH N s t A c l w W p) (hc : Ch [] W W') : LH N s t A c l w W' p := ⟨h.ch.trans hc (by simp), hc.at h.blk (by simp), Kd.C_below h.arcs hc.below⟩
theorem LH.start (hr : k43.C w A l.length l) : LH N s t A c l w (w.alloc (.cells #[.int .i64 N, .int .i64 s, .int .i64 t, .slice A l.length c] 24)) w.heap.size := ⟨Ch.al _ _, blk_new _ _, Kd.C_alloc hr _⟩
theorem LH.c0 (h : LH N s t A c l w W p) : W.cell? ⟨p, 0, none⟩ = some (.int .i64 N) := (blk_cell h.blk 0).trans rfl
theorem LH.c1 (h : LH N s t A c l w W p) : W.cell? ⟨p, 1, none⟩ = some (.int .i64 s) := (blk_cell h.blk 1).trans rfl
theorem LH.c2 (h : LH N s t A c l w W p) : W.cell? ⟨p, 2, none⟩ = some (.int .i64 t) := (blk_cell h.blk 2).trans rfl
theorem LH.c3 (h : LH N s t A c l w W p) : W.cell? ⟨p, 3, none⟩ = some (.slice A l.length c) := (blk_cell h.blk 3).trans rfl
end

set_option maxHeartbeats 4000000 in
set_option maxRecDepth 100000 in
theorem duality_calls (N s t : Int) (A : Option Addr) (c : Nat) (l : List S43) (A1 : Option Addr) (c1 : Nat) (x : List Int) (A2 : Option Addr) (c2 : Nat) (side : List Bool) (w : World) (hr : k43.C w A l.length l) (hcap : l.length ≤ c) (hr1 : (Kd.int .i64).C w A1 x.length x) (hr2 : Kd.bool.C w A2 side.length side) :
    Calls Try.prog 5 #[.agg #[.int .i64 N, .int .i64 s, .int .i64 t, .slice A l.length c], .slice A1 x.length c1, .slice A2 side.length c2] w fun e w' => e = .returned (.bool true) ∧ Ch [] w w' := by
  have HR := Aside0.mk hr
  have HR1 := Aside0.mk hr1
  have HR2 := Aside0.mk hr2
  have HCAP := Aside0.mk hcap
  have HXL := Aside0.mk (Kd.C_max hr1)
  have HSL := Aside0.mk (Kd.C_max hr2)
  clear hr hr1 hr2 hcap
  go_enter Try.func5, Try.ntmps5
  go_upto_region 3 with (go_at_call 10; refine (sane_calls _).mono ?_; rintro e w1 ⟨rfl, hc⟩; have H1 := Aside0.mk ((LH.start (N := N) (s := s) (t := t) (c := c) HR.out).move hc); clear hc)
  have k0 := H1.out.c0
  have k1 := H1.out.c1
  have k2 := H1.out.c2
  have k3 := H1.out.c3
  cases hf : few N s t l with
  | false =>
    have HF := Aside0.mk hf
    clear hf
    go_wp2_with (go_at_call 17; refine (fastiref13_Few.calls 600 N s t A c l _ _ H1.out.arcs HCAP.out (few_f N s t l)).mono ?_; rintro e w2 ⟨he, hb⟩; rw [HF.out] at he; subst he; have H2 := Aside0.mk (H1.out.move (Ch.of_below hb [])); clear hb)
    go_ret
    exact ⟨rfl, H2.out.ch⟩
  | true =>
  have HF := Aside0.mk hf
  clear hf
  by_cases hz : chk N s t l = 0
  rotate_left
  · obtain ⟨q, hq⟩ : ∃ q, chk N s t l = q := ⟨_, rfl⟩
    rw [hq] at hz
    have b1 : (q != 0) = true := by simpa using hz
    have HZ := Aside0.mk hq
    clear hq hz
    go_wp2_with (first | (go_at_call 17; refine (fastiref13_Few.calls 600 N s t A c l _ _ H1.out.arcs HCAP.out (few_f N s t l)).mono ?_; rintro e w2 ⟨he, hb⟩; rw [HF.out] at he; subst he; have H2 := Aside0.mk (H1.out.move (Ch.of_below hb [])); clear hb; have j0 := H2.out.c0; have j1 := H2.out.c1; have j2 := H2.out.c2; have j3 := H2.out.c3) | (go_at_call 15; refine (check_any N s t A c l _ H2.out.arcs).mono ?_; rintro e w3 ⟨he, hc⟩; rw [HZ.out] at he; subst he; have H3 := Aside0.mk (H2.out.move hc); clear hc))
    go_ret
    exact ⟨rfl, H3.out.ch⟩
  have HZ := Aside0.mk hz
  clear hz
  go_upto_region 5 with (first | (go_at_call 17; refine (fastiref13_Few.calls 600 N s t A c l _ _ H1.out.arcs HCAP.out (few_f N s t l)).mono ?_; rintro e w2 ⟨he, hb⟩; rw [HF.out] at he; subst he; have H2 := Aside0.mk (H1.out.move (Ch.of_below hb [])); clear hb; have j0 := H2.out.c0; have j1 := H2.out.c1; have j2 := H2.out.c2; have j3 := H2.out.c3) | (go_at_call 15; refine (check_any N s t A c l _ H2.out.arcs).mono ?_; rintro e w3 ⟨he, hc⟩; rw [HZ.out] at he; subst he; have H3 := Aside0.mk (H2.out.move hc); clear hc))
  clear k0 k1 k2 k3 j0 j1 j2 j3
  have k0 := H3.out.c0
  have k1 := H3.out.c1
  have k2 := H3.out.c2
  have k3 := H3.out.c3
  go_upto_region 8 with (go_at_call 22; refine (greatest_calls N s t A c l _ H3.out.arcs HZ.out).mono ?_; rintro e w4 ⟨A3, c3, x0, s0, rfl, hc, hm, _, _⟩; have H4 := Aside0.mk (H3.out.move hc); have HM := Aside0.mk hm; clear hc hm)
  clear k0 k1 k2 k3
  have k0 := H4.out.c0
  have k1 := H4.out.c1
  have k2 := H4.out.c2
  have k3 := H4.out.c3
  have hn := NetOk.of HZ.out
  have hl5 := hn.len
  have HL := Aside0.mk (show l.length ≤ 100000 by omega)
  -- the plain law
  have p1 : (val N s t l x).2 = 0 → (val N s t l x).1 ≤ sur l x0 s ∧ ((cut N s t l side).2 = 0 → (val N s t l x).1 ≤ (cut N s t l side).1) := by
    unfold val cut
    rw [if_pos HZ.out, if_pos HZ.out]
    by_cases h : flowOk N s t l x
    · rw [if_pos h]
      intro _
      refine ⟨by rw [HM.out.eq]; exact weak hn h HM.out.sd, ?_⟩
      by_cases h2 : sideOk N s t side
      · rw [if_pos h2]; exact fun _ => weak hn h h2
      · rw [if_neg h2]; intro h; simp at h
    · rw [if_neg h]; intro h; simp at h
  have p2 : (cut N s t l side).2 = 0 → sur l x0 s ≤ (cut N s t l side).1 := by
    unfold cut
    rw [if_pos HZ.out]
    by_cases h2 : sideOk N s t side
    · rw [if_pos h2]; exact fun _ => weak hn HM.out.flow h2
    · rw [if_neg h2]; intro h; simp at h
  obtain ⟨v, hv⟩ : ∃ v, val N s t l x = v := ⟨_, rfl⟩
  obtain ⟨d, hd⟩ : ∃ d, cut N s t l side = d := ⟨_, rfl⟩
  rw [hv, hd] at p1
  rw [hd] at p2
  have HV := Aside0.mk hv
  have HD := Aside0.mk hd
  obtain ⟨v1, v2⟩ := v
  obtain ⟨d1, d2⟩ := d
  simp only at p1 p2
  generalize sur l x0 s = most at p1 p2
  have P1 := Aside0.mk p1
  have P2 := Aside0.mk p2
  clear hv hd p1 p2 hn
  go_upto_region 9 with (go_at_call 11; refine (value_calls N s t A c l A1 c1 x _ H4.out.arcs HL.out (Kd.C_below HR1.out H4.out.ch.below) HXL.out).mono ?_; rintro e w5 ⟨he, hc⟩; rw [HV.out] at he; subst he; have H5 := Aside0.mk (H4.out.move hc); clear hc)
  clear k0 k1 k2 k3
  have k0 := H5.out.c0
  have k1 := H5.out.c1
  have k2 := H5.out.c2
  have k3 := H5.out.c3
  go_upto_region 10 with (go_at_call 13; refine (cut_calls N s t A c l A2 c2 side _ H5.out.arcs HL.out (Kd.C_below HR2.out H5.out.ch.below) HSL.out).mono ?_; rintro e w6 ⟨he, hc⟩; rw [HD.out] at he; subst he; have H6 := Aside0.mk (H5.out.move hc); clear hc)
  clear k0 k1 k2 k3
  have fin : ∀ w', w' = w6 → Ch [] w w' := fun w' e => by rw [e]; exact H6.out.ch
  have HFIN := Aside0.mk fin
  clear fin
  by_cases e2 : d2 = 0
  · have g1 : (d2 == 0) = true := by simpa using e2
    have g2 : (d2 != 0) = false := by simpa using e2
    have g3 : decide (most ≤ d1) = true := decide_eq_true (P2.out e2)
    by_cases e1 : v2 = 0
    · have f1 : (v2 == 0) = true := by simpa using e1
      have f2 : decide (most < v1) = false := decide_eq_false (by have := (P1.out e1).1; omega)
      have f3 : decide (d1 < v1) = false := decide_eq_false (by have := (P1.out e1).2 e2; omega)
      clear e1 e2
      go_wp2
      go_ret
      exact ⟨rfl, HFIN.out _ rfl⟩
    · have f1 : (v2 == 0) = false := by simpa using e1
      clear e1 e2
      go_wp2
      go_ret
      exact ⟨rfl, HFIN.out _ rfl⟩
  · have g1 : (d2 == 0) = false := by simpa using e2
    have g2 : (d2 != 0) = true := by simpa using e2
    by_cases e1 : v2 = 0
    · have f1 : (v2 == 0) = true := by simpa using e1
      have f2 : decide (most < v1) = false := decide_eq_false (by have := (P1.out e1).1; omega)
      clear e1 e2
      go_wp2
      go_ret
      exact ⟨rfl, HFIN.out _ rfl⟩
    · have f1 : (v2 == 0) = false := by simpa using e1
      clear e1 e2
      go_wp2
      go_ret
      exact ⟨rfl, HFIN.out _ rfl⟩
end Go.Proofs.Ytipfpckjgfjehaa

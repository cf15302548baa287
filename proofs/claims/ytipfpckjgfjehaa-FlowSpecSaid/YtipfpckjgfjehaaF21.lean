/-
  fastilaw13.FlowSpec: the walk.
-/
import Derived.Test.YtipfpckjgfjehaaF15
namespace Go.Proofs.Ytipfpckjgfjehaa
set_option linter.unusedVariables false
set_option linter.unusedSimpArgs false
open Go.RowKit PFlowMaxSpec Go.Proofs.YtipfpckjgfjehaaW.PrintWords
attribute [local go_sem] Oper.semAt_some

theorem LH.drew {N s t : Int} {A : Option Addr} {c : Nat} {l : List S43} {w W : World} {p : Nat} (h : LH N s t A c l w W p) : LH N s t A c l w W.drew p := h.move ((Ch.refl [] W).drew)

set_option maxHeartbeats 4000000 in
set_option maxRecDepth 100000 in
set_option warningAsError false in
theorem spec_calls (N s t : Int) (A : Option Addr) (c : Nat) (l : List S43) (A1 : Option Addr) (c1 : Nat) (x : List Int) (A2 : Option Addr) (c2 : Nat) (side : List Bool) (w : World) (hr : k43.C w A l.length l) (hcap : l.length ≤ c) (_hnone : A = none → c = 0) (hr1 : (Kd.int .i64).C w A1 x.length x) (hcap1 : x.length ≤ c1) (hr2 : Kd.bool.C w A2 side.length side) (hcap2 : side.length ≤ c2) :
    Calls Try.prog 3 #[.agg #[.int .i64 N, .int .i64 s, .int .i64 t, .slice A l.length c], .slice A1 x.length c1, .slice A2 side.length c2] w fun e w' => e = .returned (.bool true) ∧ Ch [] w w' := by
  have HR := Aside0.mk hr
  have HR1 := Aside0.mk hr1
  have HR2 := Aside0.mk hr2
  have HCAP := Aside0.mk hcap
  have HCAP1 := Aside0.mk hcap1
  have hxl := Kd.C_max hr1
  have hsl := Kd.C_max hr2
  have hll := Kd.C_max hr
  clear hr hr1 hr2 hcap hcap1
  go_enter Try.func3, Try.ntmps3
  go_upto_region 3 with (go_at_call 10; refine (sane_calls _).mono ?_; rintro e w1 ⟨rfl, hc⟩; have H1 := Aside0.mk ((LH.start (N := N) (s := s) (t := t) (c := c) HR.out).move hc); clear hc)
  have k3 := H1.out.c3
  by_cases a1 : 600 < l.length
  · have b1 : decide ((600 : Int) < (l.length : Int)) = true := decide_eq_true (by omega)
    clear a1
    go_wp2
    go_ret
    exact ⟨rfl, H1.out.ch⟩
  have b1 : decide ((600 : Int) < (l.length : Int)) = false := decide_eq_false (by omega)
  by_cases a2 : 600 < x.length
  · have b2 : decide ((600 : Int) < (x.length : Int)) = true := decide_eq_true (by omega)
    clear a1 a2
    go_wp2
    go_ret
    exact ⟨rfl, H1.out.ch⟩
  have b2 : decide ((600 : Int) < (x.length : Int)) = false := decide_eq_false (by omega)
  by_cases a3 : 600 < side.length
  · have b3 : decide ((600 : Int) < (side.length : Int)) = true := decide_eq_true (by omega)
    clear a1 a2 a3
    go_wp2
    go_ret
    exact ⟨rfl, H1.out.ch⟩
  have b3 : decide ((600 : Int) < (side.length : Int)) = false := decide_eq_false (by omega)
  go_upto_region 5 with (fail)
  have HL := Aside0.mk (show l.length ≤ 100000 by omega)
  have HXL := Aside0.mk hxl
  have HSL := Aside0.mk hsl
  clear a1 a2 a3 b1 b2 b3 k3 hxl hsl hll
  obtain ⟨v, hv⟩ : ∃ v, val N s t l x = v := ⟨_, rfl⟩
  obtain ⟨d, hd⟩ : ∃ d, cut N s t l side = d := ⟨_, rfl⟩
  obtain ⟨q, hq⟩ : ∃ q, chk N s t l = q := ⟨_, rfl⟩
  have HV := Aside0.mk hv
  have HD := Aside0.mk hd
  have HQ := Aside0.mk hq
  clear hv hd hq
  obtain ⟨v1, v2⟩ := v
  obtain ⟨d1, d2⟩ := d
  have k0 := H1.out.c0
  have k1 := H1.out.c1
  have k2 := H1.out.c2
  have k3 := H1.out.c3
  go_upto_region 6 with (go_at_call 11; refine (value_calls N s t A c l A1 c1 x _ H1.out.arcs HL.out (Kd.C_below HR1.out H1.out.ch.below) HXL.out).mono ?_; rintro e w2 ⟨he, hc⟩; rw [HV.out] at he; subst he; have H2 := Aside0.mk (H1.out.move hc); clear hc)
  clear k0 k1 k2 k3
  have k0 := H2.out.c0
  have k1 := H2.out.c1
  have k2 := H2.out.c2
  have k3 := H2.out.c3
  go_upto_region 7 with (go_at_call 12; refine (refvalue_calls N s t A c l A1 c1 x _ H2.out.arcs HCAP.out (Kd.C_below HR1.out H2.out.ch.below) HCAP1.out).mono ?_; rintro e w3 ⟨he, hc⟩; rw [HV.out] at he; subst he; have H3 := Aside0.mk (H2.out.move hc); clear hc)
  clear k0 k1 k2 k3
  have k0 := H3.out.c0
  have k1 := H3.out.c1
  have k2 := H3.out.c2
  have k3 := H3.out.c3
  go_upto_region 8 with (go_at_call 13; refine (cut_calls N s t A c l A2 c2 side _ H3.out.arcs HL.out (Kd.C_below HR2.out H3.out.ch.below) HSL.out).mono ?_; rintro e w4 ⟨he, hc⟩; rw [HD.out] at he; subst he; have H4 := Aside0.mk (H3.out.move hc); clear hc)
  clear k0 k1 k2 k3
  have k0 := H4.out.c0
  have k1 := H4.out.c1
  have k2 := H4.out.c2
  have k3 := H4.out.c3
  go_upto_region 9 with (go_at_call 14; refine (refcut_calls N s t A c l A2 c2 side _ H4.out.arcs HCAP.out (Kd.C_below HR2.out H4.out.ch.below)).mono ?_; rintro e w5 ⟨he, hc⟩; rw [HD.out] at he; subst he; have H5 := Aside0.mk (H4.out.move hc); clear hc)
  clear k0 k1 k2 k3 H1 H2 H3 H4
  have k0 := H5.out.c0
  have k1 := H5.out.c1
  have k2 := H5.out.c2
  have k3 := H5.out.c3
  go_region_held3 (fun w' => w'.cell? ⟨w.heap.size, 0, none⟩ = some (.int .i64 N) ∧ w'.cell? ⟨w.heap.size, 1, none⟩ = some (.int .i64 s) ∧ w'.cell? ⟨w.heap.size, 2, none⟩ = some (.int .i64 t) ∧ w'.cell? ⟨w.heap.size, 3, none⟩ = some (.slice A l.length c) ∧ Aside0 (LH N s t A c l w w' w.heap.size))
    (first | exact ⟨H5.out.drew.c0, H5.out.drew.c1, H5.out.drew.c2, H5.out.drew.c3, ⟨H5.out.drew⟩⟩ | exact ⟨HN1.out.c0, HN1.out.c1, HN1.out.c2, HN1.out.c3, HN1⟩ | exact ⟨HN2.out.c0, HN2.out.c1, HN2.out.c2, HN2.out.c3, HN2⟩)
    (first | (go_at_call 15; refine (check_any N s t A c l _ (HN2.out).arcs).mono ?_; rintro e w6 ⟨he, hc⟩; rw [HQ.out] at he; subst he; have HN1 := Aside0.mk (HN2.out.move hc); clear hc) | (go_at_call 15; refine (check_any N s t A c l _ (H5.out.drew).arcs).mono ?_; rintro e w6 ⟨he, hc⟩; rw [HQ.out] at he; subst he; have HN1 := Aside0.mk (H5.out.drew.move hc); clear hc) | (go_at_call 16; refine (refcheck_calls N s t A c l _ (HN1.out).arcs HCAP.out).mono ?_; rintro e w7 ⟨he, hc⟩; rw [HQ.out] at he; subst he; have HN2 := Aside0.mk (HN1.out.move hc); clear hc) | (go_at_call 16; refine (refcheck_calls N s t A c l _ (H5.out.drew).arcs HCAP.out).mono ?_; rintro e w7 ⟨he, hc⟩; rw [HQ.out] at he; subst he; have HN2 := Aside0.mk (H5.out.drew.move hc); clear hc))
  all_goals (
    go_wp2
    go_ret
    first
    | exact ⟨rfl, HN2.out.ch⟩
    | exact ⟨rfl, HN1.out.ch⟩)
end Go.Proofs.Ytipfpckjgfjehaa

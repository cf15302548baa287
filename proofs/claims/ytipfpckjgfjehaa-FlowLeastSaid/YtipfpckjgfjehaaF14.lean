/-
  fastilaw13.FlowLeast: the walk.
-/
import Derived.Test.YtipfpckjgfjehaaF12
namespace Go.Proofs.Ytipfpckjgfjehaa
set_option linter.unusedVariables false
set_option linter.unusedSimpArgs false
open Go.RowKit PFlowMaxSpec Go.Proofs.YtipfpckjgfjehaaW.PrintWords
attribute [local go_sem] Oper.semAt_some

set_option maxHeartbeats 4000000 in
set_option maxRecDepth 100000 in
theorem least_calls (N s t : Int) (A : Option Addr) (c : Nat) (l : List S43) (A2 : Option Addr) (c2 : Nat) (side : List Bool) (w : World) (hr : k43.C w A l.length l) (hcap : l.length ≤ c) (hr2 : Kd.bool.C w A2 side.length side) :
    Calls Try.prog 6 #[.agg #[.int .i64 N, .int .i64 s, .int .i64 t, .slice A l.length c], .slice A2 side.length c2] w fun e w' => e = .returned (.bool true) ∧ Ch [] w w' := by
  have HR := Aside0.mk hr
  have HR2 := Aside0.mk hr2
  have HCAP := Aside0.mk hcap
  have HSL := Aside0.mk (Kd.C_max hr2)
  clear hr hr2 hcap
  go_enter Try.func6, Try.ntmps6
  go_upto_region 3 with (go_at_call 10; refine (sane_calls _).mono ?_; rintro e w1 ⟨rfl, hc⟩; have H1 := Aside0.mk ((LH.start (N := N) (s := s) (t := t) (c := c) HR.out).move hc); clear hc)
  have k0 := H1.out.c0
  have k1 := H1.out.c1
  have k2 := H1.out.c2
  have k3 := H1.out.c3
  cases hf : few N s t l with
  | false =>
    have HF := Aside0.mk hf
    clear hf
    go_wp2_with (go_at_call 17; refine (fastiref13_Few.calls 600 N s t A c l _ _ H1.out.arcs HCAP.out (few_f N s t l)).mono ?_; rintro e w2 ⟨he, hb⟩; rw [HF.out] at he; subst he; have H2 := Aside0.mk (H1.out.move (Ch.of_below hb [])); clear hb)
    go_ret
    exact ⟨rfl, H2.out.ch⟩
  | true =>
  have HF := Aside0.mk hf
  clear hf
  by_cases hz : chk N s t l = 0
  rotate_left
  · obtain ⟨q, hq⟩ : ∃ q, chk N s t l = q := ⟨_, rfl⟩
    rw [hq] at hz
    have b1 : (q != 0) = true := by simpa using hz
    have HZ := Aside0.mk hq
    clear hq hz
    go_wp2_with (first | (go_at_call 17; refine (fastiref13_Few.calls 600 N s t A c l _ _ H1.out.arcs HCAP.out (few_f N s t l)).mono ?_; rintro e w2 ⟨he, hb⟩; rw [HF.out] at he; subst he; have H2 := Aside0.mk (H1.out.move (Ch.of_below hb [])); clear hb; have j0 := H2.out.c0; have j1 := H2.out.c1; have j2 := H2.out.c2; have j3 := H2.out.c3) | (go_at_call 15; refine (check_any N s t A c l _ H2.out.arcs).mono ?_; rintro e w3 ⟨he, hc⟩; rw [HZ.out] at he; subst he; have H3 := Aside0.mk (H2.out.move hc); clear hc))
    go_ret
    exact ⟨rfl, H3.out.ch⟩
  have HZ := Aside0.mk hz
  clear hz
  go_upto_region 5 with (first | (go_at_call 17; refine (fastiref13_Few.calls 600 N s t A c l _ _ H1.out.arcs HCAP.out (few_f N s t l)).mono ?_; rintro e w2 ⟨he, hb⟩; rw [HF.out] at he; subst he; have H2 := Aside0.mk (H1.out.move (Ch.of_below hb [])); clear hb; have j0 := H2.out.c0; have j1 := H2.out.c1; have j2 := H2.out.c2; have j3 := H2.out.c3) | (go_at_call 15; refine (check_any N s t A c l _ H2.out.arcs).mono ?_; rintro e w3 ⟨he, hc⟩; rw [HZ.out] at he; subst he; have H3 := Aside0.mk (H2.out.move hc); clear hc))
  clear k0 k1 k2 k3 j0 j1 j2 j3
  have k0 := H3.out.c0
  have k1 := H3.out.c1
  have k2 := H3.out.c2
  have k3 := H3.out.c3
  go_upto_region 8 with (go_at_call 22; refine (greatest_calls N s t A c l _ H3.out.arcs HZ.out).mono ?_; rintro e w4 ⟨A3, c3, x0, s0, rfl, hc, hm, hs0, _⟩; have H4 := Aside0.mk (H3.out.move hc); have HM := Aside0.mk hm; have HS0 := Aside0.mk hs0; clear hc hm hs0)
  clear k0 k1 k2 k3
  have k0 := H4.out.c0
  have k1 := H4.out.c1
  have k2 := H4.out.c2
  have k3 := H4.out.c3
  have hn := NetOk.of HZ.out
  have hl5 := hn.len
  have HL := Aside0.mk (show l.length ≤ 100000 by omega)
  -- the plain law
  have p1 : (cut N s t l side).2 = 0 → (cut N s t l side).1 = sur l x0 s → side.length = s0.length ∧ ∀ v : Int, 0 ≤ v → v < s0.length → gb s0 v = true → gb side v = true := by
    unfold cut
    rw [if_pos HZ.out]
    by_cases h2 : sideOk N s t side
    · rw [if_pos h2]
      intro _ he
      have h3 := HM.out.sd.1
      have h4 := h2.1
      exact ⟨by omega, fun v v0 v1 hv => HM.out.least side h2 (by have he : cutOf l side = sur l x0 s := he; omega) v v0 (by omega) hv⟩
    · rw [if_neg h2]; intro h; simp at h
  have hs0l : s0.length ≤ 64 := by have := HM.out.sd.1; have := hn.arg.2.1; omega
  obtain ⟨d, hd⟩ : ∃ d, cut N s t l side = d := ⟨_, rfl⟩
  rw [hd] at p1
  have HD := Aside0.mk hd
  obtain ⟨d1, d2⟩ := d
  simp only at p1
  generalize sur l x0 s = most at p1
  have P1 := Aside0.mk p1
  clear hd p1 hn
  go_upto_region 9 with (go_at_call 13; refine (cut_calls N s t A c l A2 c2 side _ H4.out.arcs HL.out (Kd.C_below HR2.out H4.out.ch.below) HSL.out).mono ?_; rintro e w6 ⟨he, hc⟩; rw [HD.out] at he; subst he; have H6 := Aside0.mk (H4.out.move hc); have HS6 := Aside0.mk (Kd.C_below HS0.out hc.below); clear hc)
  clear k0 k1 k2 k3 HS0
  by_cases e2 : d2 = 0
  rotate_left
  · have g2 : (d2 != 0) = true := by simpa using e2
    clear e2
    go_wp2
    go_ret
    exact ⟨rfl, H6.out.ch⟩
  have g2 : (d2 != 0) = false := by simpa using e2
  by_cases e3 : d1 = most
  rotate_left
  · have g3 : (d1 != most) = true := by simpa using e3
    clear e2 e3
    go_wp2
    go_ret
    exact ⟨rfl, H6.out.ch⟩
  have g3 : (d1 != most) = false := by simpa using e3
  have HP := Aside0.mk (P1.out e2 e3)
  clear e2 e3
  go_wp2
  clear g2 g3
  go_loopw [44] (fun i W => ∃ k : Nat, k ≤ s0.length ∧ i = .int .i64 k ∧ W = w6) (fun i W => s0.length - (intOf i).toNat)
  case atStart => exact ⟨0, by omega, rfl, rfl⟩
  case round =>
    obtain ⟨k, hk, rfl, rfl⟩ := hrel
    by_cases hlt : k < s0.length
    · have hsl := HP.out.1
      obtain ⟨ad3, rfl, q0⟩ := at_gb HS6.out k (by omega) (by omega)
      obtain ⟨ad2, rfl, q1⟩ := at_gb (Kd.C_below HR2.out H6.out.ch.below) k (by omega) (by omega)
      simp only [Int.toNat_natCast] at q0 q1
      have hkl : k < side.length := by omega
      have hle := HP.out.2 k (by omega) (by omega)
      clear hsl
      cases hg : gb s0 k with
      | false =>
        rw [hg] at q0
        clear hle hg
        go_wp2
        go_roundw
        case rel => exact ⟨k + 1, by omega, by go_num, trivial⟩
        case measure => simp [intOf]; omega
      | true =>
        rw [hg] at q0
        rw [hle hg] at q1
        clear hle hg
        go_wp2
        go_roundw
        case rel => exact ⟨k + 1, by omega, by go_num, trivial⟩
        case measure => simp [intOf]; omega
    · go_wp2
      go_ret
      exact ⟨rfl, H6.out.ch⟩
end Go.Proofs.Ytipfpckjgfjehaa

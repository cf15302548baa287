/-
  fastiref13.Side and Cut: the walks.
-/
import Derived.Test.YtipfpckjgfjehaaF12
import Derived.Test.YtipfpckjgfjehaaP8
namespace Go.Proofs.Ytipfpckjgfjehaa
set_option linter.unusedVariables false
set_option linter.unusedSimpArgs false
open Go.RowKit PFlowMaxSpec Go.Proofs.YtipfpckjgfjehaaW.PrintWords
attribute [local go_sem] Oper.semAt_some

set_option maxHeartbeats 2000000 in
theorem side_calls (N s t : Int) (A : Option Addr) (c : Nat) (l : List S43) (A1 : Option Addr) (c1 : Nat) (side : List Bool) (w : World) (hs0 : 0 ≤ s) (hs1 : s < N) (ht0 : 0 ≤ t) (ht1 : t < N) (hr1 : Kd.bool.C w A1 side.length side) :
    Calls Try.prog 25 #[.agg #[.int .i64 N, .int .i64 s, .int .i64 t, .slice A l.length c], .slice A1 side.length c1] w fun e w' => e = .returned (.bool (decide (sideOk N s t side))) ∧ Ch [] w w' := by
  have HR1 := Aside0.mk hr1
  clear hr1
  by_cases a1 : (side.length : Int) = N
  rotate_left
  · have b1 : ((side.length : Int) == N) = false := by simpa using a1
    rw [decide_eq_false (fun h : sideOk N s t side => a1 h.1)]
    go_enter Try.func25, Try.ntmps25
    go_wp2
    go_ret
    exact ⟨rfl, Ch.al _ _⟩
  have b1 : ((side.length : Int) == N) = true := by simpa using a1
  obtain ⟨ad1, rfl, q1⟩ := at_gb HR1.out s hs0 (by omega)
  obtain ⟨_, e2, q2⟩ := at_gb HR1.out t ht0 (by omega)
  cases e2
  have q1l := World.block_lt_of_cell? w _ q1
  have q2l := World.block_lt_of_cell? w _ q2
  have r1 : s < (side.length : Int) := by omega
  have r2 : t < (side.length : Int) := by omega
  cases a2 : gb side s with
  | false =>
    rw [a2] at q1
    have hd : decide (sideOk N s t side) = false := decide_eq_false (fun h => by have h := h.2.1; rw [a2] at h; cases h)
    rw [hd]
    clear hd a2 a1
    go_enter Try.func25, Try.ntmps25
    go_wp2
    go_ret
    exact ⟨rfl, Ch.al _ _⟩
  | true =>
  rw [a2] at q1
  cases a3 : gb side t with
  | true =>
    rw [a3] at q2
    have hd : decide (sideOk N s t side) = false := decide_eq_false (fun h => by have h := h.2.2; rw [a3] at h; cases h)
    rw [hd]
    clear hd a2 a3 a1
    go_enter Try.func25, Try.ntmps25
    go_wp2
    go_ret
    exact ⟨rfl, Ch.al _ _⟩
  | false =>
    rw [a3] at q2
    have hd : decide (sideOk N s t side) = true := decide_eq_true ⟨a1, a2, a3⟩
    rw [hd]
    clear hd a2 a3 a1
    go_enter Try.func25, Try.ntmps25
    go_wp2
    go_ret
    exact ⟨rfl, Ch.al _ _⟩

theorem refcheck_calls (N s t : Int) (A : Option Addr) (c : Nat) (l : List S43) (w : World) (hr : k43.C w A l.length l) (hcap : l.length ≤ c) :
    Calls Try.prog 16 #[.agg #[.int .i64 N, .int .i64 s, .int .i64 t, .slice A l.length c]] w fun e w' => e = .returned (.int .i64 (chk N s t l)) ∧ Ch [] w w' :=
  (fastiref13_Check.calls 600 N s t A c l _ w hr hcap (check_f N s t l)).mono fun e w' ⟨he, hb⟩ => ⟨he, Ch.of_below hb []⟩
theorem refvalue_calls (N s t : Int) (A : Option Addr) (c : Nat) (l : List S43) (A1 : Option Addr) (c1 : Nat) (x : List Int) (w : World) (hr : k43.C w A l.length l) (hcap : l.length ≤ c) (hr1 : (Kd.int .i64).C w A1 x.length x) (hcap1 : x.length ≤ c1) :
    Calls Try.prog 12 #[.agg #[.int .i64 N, .int .i64 s, .int .i64 t, .slice A l.length c], .slice A1 x.length c1] w fun e w' => e = .returned (.tuple #[.int .i64 (val N s t l x).1, .int .i64 (val N s t l x).2]) ∧ Ch [] w w' :=
  (fastiref13_Value.calls 2000 N s t A c l A1 c1 x _ _ w hr hcap hr1 hcap1 (value_f N s t l x)).mono fun e w' ⟨he, hb⟩ => ⟨he, Ch.of_below hb []⟩


set_option maxHeartbeats 4000000 in
theorem refcut_calls (N s t : Int) (A : Option Addr) (c : Nat) (l : List S43) (A1 : Option Addr) (c1 : Nat) (side : List Bool) (w : World) (hr : k43.C w A l.length l) (hcap : l.length ≤ c) (hr1 : Kd.bool.C w A1 side.length side) :
    Calls Try.prog 14 #[.agg #[.int .i64 N, .int .i64 s, .int .i64 t, .slice A l.length c], .slice A1 side.length c1] w fun e w' => e = .returned (.tuple #[.int .i64 (cut N s t l side).1, .int .i64 (cut N s t l side).2]) ∧ Ch [] w w' := by
  have HR := Aside0.mk hr
  have HR1 := Aside0.mk hr1
  have HCAP := Aside0.mk hcap
  clear hr hr1 hcap
  by_cases hz : chk N s t l = 0
  rotate_left
  · have hcut : cut N s t l side = (0, chk N s t l) := by unfold cut; rw [if_neg hz]
    rw [hcut]
    generalize hq : chk N s t l = q at hz
    have HZ := Aside0.mk hq
    clear hq hcut
    have b1 : (q != 0) = true := by simpa using hz
    go_enter Try.func14, Try.ntmps14
    go_wp2_with (go_at_call 16; refine (refcheck_calls N s t A c l _ (LH.start (N := N) (s := s) (t := t) (c := c) HR.out).arcs HCAP.out).mono ?_; rintro e w1 ⟨he, hc⟩; rw [HZ.out] at he; subst he; have H1 := Aside0.mk ((LH.start (N := N) (s := s) (t := t) (c := c) HR.out).move hc); clear hc; have k0 := H1.out.c0; have k1 := H1.out.c1; have k2 := H1.out.c2; have k3 := H1.out.c3)
    go_ret2
    exact ⟨rfl, H1.out.ch⟩
  have HZ := Aside0.mk hz
  obtain ⟨hA, hl5, hall⟩ := chk_zero hz
  have HALL := Aside0.mk hall
  clear hz hall
  obtain ⟨hN0, hN1, hs, ht, hst⟩ := hA
  obtain ⟨hs0, hs1⟩ := inV_true.1 hs
  obtain ⟨ht0, ht1⟩ := inV_true.1 ht
  clear hs ht hst
  by_cases hso : sideOk N s t side
  rotate_left
  · have hcut : cut N s t l side = (0, 130) := by unfold cut; rw [if_pos HZ.out, if_neg hso]
    rw [hcut]
    have HSO := Aside0.mk (decide_eq_false hso)
    clear hcut hso
    go_enter Try.func14, Try.ntmps14
    go_wp2_with (first | (go_at_call 16; refine (refcheck_calls N s t A c l _ (LH.start (N := N) (s := s) (t := t) (c := c) HR.out).arcs HCAP.out).mono ?_; rintro e w1 ⟨he, hc⟩; rw [HZ.out] at he; subst he; have H1 := Aside0.mk ((LH.start (N := N) (s := s) (t := t) (c := c) HR.out).move hc); clear hc; have k0 := H1.out.c0; have k1 := H1.out.c1; have k2 := H1.out.c2; have k3 := H1.out.c3) | (go_at_call 25; refine (side_calls N s t A c l A1 c1 side _ hs0 hs1 ht0 ht1 (Kd.C_below HR1.out H1.out.ch.below)).mono ?_; rintro e w2 ⟨he, hc⟩; rw [HSO.out] at he; subst he; have H2 := Aside0.mk (H1.out.move hc); clear hc; have j0 := H2.out.c0; have j3 := H2.out.c3))
    go_ret2
    exact ⟨rfl, H2.out.ch⟩
  have hcut : cut N s t l side = (cutOf l side, 0) := by unfold cut; rw [if_pos HZ.out, if_pos hso]
  rw [hcut]
  have HSO := Aside0.mk (decide_eq_true hso)
  have HA1 := Aside0.mk hso.1
  clear hcut hso
  go_enter Try.func14, Try.ntmps14
  go_wp2_with (first | (go_at_call 16; refine (refcheck_calls N s t A c l _ (LH.start (N := N) (s := s) (t := t) (c := c) HR.out).arcs HCAP.out).mono ?_; rintro e w1 ⟨he, hc⟩; rw [HZ.out] at he; subst he; have H1 := Aside0.mk ((LH.start (N := N) (s := s) (t := t) (c := c) HR.out).move hc); clear hc; have k0 := H1.out.c0; have k1 := H1.out.c1; have k2 := H1.out.c2; have k3 := H1.out.c3) | (go_at_call 25; refine (side_calls N s t A c l A1 c1 side _ hs0 hs1 ht0 ht1 (Kd.C_below HR1.out H1.out.ch.below)).mono ?_; rintro e w2 ⟨he, hc⟩; rw [HSO.out] at he; subst he; have H2 := Aside0.mk (H1.out.move hc); clear hc; have j0 := H2.out.c0; have j3 := H2.out.c3))
  clear k0 k1 k2 k3 j0 j3
  go_loopw [8, 9] (fun cc i wr => ∃ k : Nat, k ≤ l.length ∧ i = .int .i64 k ∧ cc = .int .i64 (cutK l side k) ∧ wr = w2) (fun cc i wr => l.length - (intOf i).toNat)
  case atStart => exact ⟨0, by omega, rfl, rfl, rfl⟩
  case round =>
    obtain ⟨k, hk, rfl, rfl, rfl⟩ := hrel
    have j3 := H2.out.c3
    by_cases hlt : k < l.length
    · obtain ⟨ad, rfl, c0, c1', c2⟩ := at_T43 H2.out.arcs k (by omega) (by omega)
      simp only [Int.toNat_natCast] at c0 c1' c2
      have hok := HALL.out k hlt
      have hb := cutK_bound HALL.out side k hk
      have hx : ∃ x, rd_T43 l k = x := ⟨_, rfl⟩
      obtain ⟨x, hx⟩ := hx
      have HX := Aside0.mk hx
      rw [hx] at c0 c1' c2 hok
      obtain ⟨x0, x1, x2⟩ := x
      obtain ⟨i0, i1, _, i2, i3⟩ := hok
      simp only at c0 c1' c2 i0 i1 i2 i3
      obtain ⟨i00, i01⟩ := inV_true.1 i0
      obtain ⟨i10, i11⟩ := inV_true.1 i1
      have hlen := HA1.out
      obtain ⟨ad1, rfl, r1⟩ := at_gb (Kd.C_below HR1.out H2.out.ch.below) x0 i00 (by omega)
      obtain ⟨_, e2, r2⟩ := at_gb (Kd.C_below HR1.out H2.out.ch.below) x1 i10 (by omega)
      cases e2
      have hx0l : x0 < (side.length : Int) := by omega
      have hx1l : x1 < (side.length : Int) := by omega
      clear hx i0 i1 hlen
      cases g0 : gb side x0 with
      | false =>
        rw [g0] at r1
        have HS := Aside0.mk (cutK_succ_out (l := l) (side := side) (k := k) (fun h => by rw [HX.out] at h; simp only [g0] at h; cases h.1))
        generalize cutK l side k = v at HS hb
        go_wp2
        go_roundw
        case rel => exact ⟨k + 1, by omega, by go_num, by rw [HS.out], trivial⟩
        case measure => simp [intOf]; omega
      | true =>
        rw [g0] at r1
        cases g1 : gb side x1 with
        | true =>
          rw [g1] at r2
          have HS := Aside0.mk (cutK_succ_out (l := l) (side := side) (k := k) (fun h => by rw [HX.out] at h; simp only [g1] at h; cases h.2))
          generalize cutK l side k = v at HS hb
          go_wp2
          go_roundw
          case rel => exact ⟨k + 1, by omega, by go_num, by rw [HS.out], trivial⟩
          case measure => simp [intOf]; omega
        | false =>
          rw [g1] at r2
          have HS := Aside0.mk (cutK_succ_in (l := l) (side := side) (k := k) (by rw [HX.out]; exact g0) (by rw [HX.out]; exact g1))
          rw [HX.out] at HS
          generalize cutK l side k = v at HS hb
          have hv2 : v ≤ 1073741824 * 512 := by omega
          go_wp2
          go_roundw
          case rel => exact ⟨k + 1, by omega, by go_num, by rw [HS.out], trivial⟩
          case measure => simp [intOf]; omega
    · have hke : k = l.length := by omega
      have HK := Aside0.mk hke
      clear hke
      generalize hv : cutK l side k = v
      have HV := Aside0.mk hv
      clear hv
      go_wp2
      go_ret2
      refine ⟨?_, H2.out.ch⟩
      have := HV.out
      rw [HK.out] at this
      show Ending.returned (.tuple #[.int .i64 v, .int .i64 0]) = _
      rw [← this]
      rfl
end Go.Proofs.Ytipfpckjgfjehaa

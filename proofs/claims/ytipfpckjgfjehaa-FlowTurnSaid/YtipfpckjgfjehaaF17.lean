/-
  fastilaw13.FlowTurn: the walk.
-/
import Derived.Test.YtipfpckjgfjehaaF16
namespace Go.Proofs.Ytipfpckjgfjehaa
set_option linter.unusedVariables false
set_option linter.unusedSimpArgs false
open Go.RowKit PFlowMaxSpec Go.Proofs.YtipfpckjgfjehaaW.PrintWords
attribute [local go_sem] Oper.semAt_some

def turnK (l : List S43) (k : Nat) : List S43 := (l.take k).map fun a => ⟨a.f1, a.f0, a.f2⟩
theorem turnK_succ {l : List S43} {k : Nat} (h : k < l.length) : turnK l (k + 1) = turnK l k ++ [⟨(rd_T43 l k).f1, (rd_T43 l k).f0, (rd_T43 l k).f2⟩] := by
  unfold turnK rd_T43
  rw [List.take_succ_eq_append_getElem h, List.map_append, Int.toNat_natCast, List.getD_eq_getElem?_getD, List.getElem?_eq_getElem h]; rfl
theorem turnK_length {l : List S43} {k : Nat} (h : k ≤ l.length) : (turnK l k).length = k := by unfold turnK; rw [List.length_map, List.length_take]; omega
theorem turnK_all (l : List S43) : Turned l (turnK l l.length) := by
  refine ⟨turnK_length (Nat.le_refl _), fun k hk => ?_⟩
  unfold turnK rd_T43
  rw [Int.toNat_natCast, List.getD_eq_getElem?_getD, List.getElem?_map, List.take_length, List.getD_eq_getElem?_getD, List.getElem?_eq_getElem hk]; rfl

set_option maxHeartbeats 4000000 in
set_option maxRecDepth 100000 in
theorem turn_calls (N s t : Int) (A : Option Addr) (c : Nat) (l : List S43) (w : World) (hr : k43.C w A l.length l) (hcap : l.length ≤ c) (_hnone : A = none → c = 0) :
    Calls Try.prog 8 #[.agg #[.int .i64 N, .int .i64 s, .int .i64 t, .slice A l.length c]] w fun e w' => e = .returned (.bool true) ∧ Ch [] w w' := by
  have HR := Aside0.mk hr
  have HCAP := Aside0.mk hcap
  clear hr hcap
  go_enter Try.func8, Try.ntmps8
  go_upto_region 3 with (go_at_call 10; refine (sane_calls _).mono ?_; rintro e w1 ⟨rfl, hc⟩; have H1 := Aside0.mk ((LH.start (N := N) (s := s) (t := t) (c := c) HR.out).move hc); clear hc)
  have k0 := H1.out.c0
  have k1 := H1.out.c1
  have k2 := H1.out.c2
  have k3 := H1.out.c3
  cases hf : few N s t l with
  | false =>
    have HF := Aside0.mk hf
    clear hf
    go_wp2_with (go_at_call 17; refine (fastiref13_Few.calls 600 N s t A c l _ _ H1.out.arcs HCAP.out (few_f N s t l)).mono ?_; rintro e w2 ⟨he, hb⟩; rw [HF.out] at he; subst he; have H2 := Aside0.mk (H1.out.move (Ch.of_below hb [])); clear hb)
    go_ret
    exact ⟨rfl, H2.out.ch⟩
  | true =>
  have HF := Aside0.mk hf
  clear hf
  by_cases hz : chk N s t l = 0
  rotate_left
  · obtain ⟨q, hq⟩ : ∃ q, chk N s t l = q := ⟨_, rfl⟩
    rw [hq] at hz
    have b1 : (q != 0) = true := by simpa using hz
    have HZ := Aside0.mk hq
    clear hq hz
    go_wp2_with (first | (go_at_call 17; refine (fastiref13_Few.calls 600 N s t A c l _ _ H1.out.arcs HCAP.out (few_f N s t l)).mono ?_; rintro e w2 ⟨he, hb⟩; rw [HF.out] at he; subst he; have H2 := Aside0.mk (H1.out.move (Ch.of_below hb [])); clear hb; have j0 := H2.out.c0; have j1 := H2.out.c1; have j2 := H2.out.c2; have j3 := H2.out.c3) | (go_at_call 15; refine (check_any N s t A c l _ H2.out.arcs).mono ?_; rintro e w3 ⟨he, hc⟩; rw [HZ.out] at he; subst he; have H3 := Aside0.mk (H2.out.move hc); clear hc))
    go_ret
    exact ⟨rfl, H3.out.ch⟩
  have HZ := Aside0.mk hz
  clear hz
  go_upto_region 5 with (first | (go_at_call 17; refine (fastiref13_Few.calls 600 N s t A c l _ _ H1.out.arcs HCAP.out (few_f N s t l)).mono ?_; rintro e w2 ⟨he, hb⟩; rw [HF.out] at he; subst he; have H2 := Aside0.mk (H1.out.move (Ch.of_below hb [])); clear hb; have j0 := H2.out.c0; have j1 := H2.out.c1; have j2 := H2.out.c2; have j3 := H2.out.c3) | (go_at_call 15; refine (check_any N s t A c l _ H2.out.arcs).mono ?_; rintro e w3 ⟨he, hc⟩; rw [HZ.out] at he; subst he; have H3 := Aside0.mk (H2.out.move hc); clear hc))
  clear k0 k1 k2 k3 j0 j1 j2 j3
  have k0 := H3.out.c0
  have k1 := H3.out.c1
  have k2 := H3.out.c2
  have k3 := H3.out.c3
  have kz := blk_lt H3.out.blk
  go_upto_region 6 with (fail)
  refine wp_abs (fun W => L2 N s t A c l w W w.heap.size t s w3.heap.size (.slice none 0 0) []) ?_ ?_
  · exact ⟨HR.out, H3.out.move ((Ch.refl _ _).alloc _), blk_new _ _, World.ownsRow_nil _ _ _ _, H3.out.ch.size, by have := blk_lt H3.out.blk; omega, Nat.le_refl _⟩
  obtain ⟨p2, hp2⟩ : ∃ p2, p2 = w3.heap.size := ⟨_, rfl⟩
  obtain ⟨p, hp⟩ : ∃ p, p = w.heap.size := ⟨_, rfl⟩
  rw [← hp2]
  have kz2 : w.heap.size < p2 := by rw [hp2]; exact kz
  clear k0 k1 k2 k3 kz hp2 hp H3 H1 H2
  intro W hW
  have HW := Aside0.mk hW
  clear hW
  have k3 := HW.out.h.c3
  have hn := NetOk.of HZ.out
  have hl5 := hn.len
  have HN := Aside0.mk hn
  clear hn
  go_wp2
  clear k3
  go_loopw [33] (fun i wr => ∃ k : Nat, k ≤ l.length ∧ i = .int .i64 k ∧ Aside0 (∃ v2, L2 N s t A c l w wr w.heap.size t s p2 v2 (turnK l k))) (fun i wr => l.length - (intOf i).toNat)
  case atStart => exact ⟨0, by omega, rfl, ⟨⟨_, HW.out⟩⟩⟩
  case round =>
    obtain ⟨k, hk, rfl, hrel⟩ := hrel
    obtain ⟨v2, hl2⟩ := hrel.out
    have HL := Aside0.mk hl2
    clear hrel HW hl2
    by_cases hlt : k < l.length
    · obtain ⟨ad, rfl, c0, c1, c2⟩ := at_T43 HL.out.h.arcs k (by omega) (by omega)
      simp only [Int.toNat_natCast] at c0 c1 c2
      have HS := Aside0.mk (turnK_succ hlt)
      have hx : ∃ y, rd_T43 l k = y := ⟨_, rfl⟩
      obtain ⟨y, hx⟩ := hx
      rw [hx] at c0 c1 c2 HS
      obtain ⟨y0, y1, y2⟩ := y
      simp only at c0 c1 c2 HS
      have d3 := HL.out.d3
      have hlk : (turnK l k).length ≤ 100000 := by rw [turnK_length hk]; omega
      have HLK := Aside0.mk hlk
      have hlp := blk_lt HL.out.blk2
      clear hx hlk
      generalize turnK l k = lk at *
      have HA := Aside0.mk (HL.out.move ((Ch.refl [] wr).alloc (.cells #[.int .i64 y0, .int .i64 y1, .int .i64 y2] 43)))
      go_wp2_with (at_builtin; refine pl_append_rowA (.tmp 38) (.tmp 46) 22 v2 lk ⟨y1, y0, y2⟩ w.heap.size (wr.heap.size + 1) (wr.alloc (.cells #[.int .i64 y0, .int .i64 y1, .int .i64 y2] 43)) rfl rfl Try.underlying22 info43' rfl rfl (by simp) HA.out.row HA.out.size HLK.out ?_; intro v' w1 hr hg; obtain ⟨A1, c1, hv1⟩ := hr.val; subst hv1; have happ := HA.out.app hg hr; have r1 := happ.2.1; have r2 := happ.2.2.1; have r3 := happ.2.2.2; have HAP := Aside0.mk happ.1; clear hr hg happ)
      go_roundw
      case rel => exact ⟨k + 1, by omega, by go_num, ⟨⟨_, by rw [HS.out]; have := HAP.out; simp only [List.length_append, List.length_cons, List.length_nil, Nat.zero_add] at this; exact this⟩⟩⟩
      case measure => simp [intOf]; omega
    · obtain rfl : k = l.length := by omega
      have HT := Aside0.mk (turnK_all l)
      have HN2 := Aside0.mk (chk_of_net (HT.out.net HN.out))
      have hlk := turnK_length (Nat.le_refl l.length)
      obtain ⟨A2, c2, rfl, _, hC2⟩ := HL.out.row.toC (by omega)
      have HC2 := Aside0.mk hC2
      have k0 := HL.out.h.c0
      have k1 := HL.out.h.c1
      have k2 := HL.out.h.c2
      have k3 := HL.out.h.c3
      clear hC2 hlk
      generalize turnK l l.length = lk at *
      go_upto_region 12 with (go_at_call 22; refine (greatest_calls N s t A c l _ HL.out.h.arcs HZ.out).mono ?_; rintro e w4 ⟨A3, c3, x0, s0, rfl, hc, hm, hs0, _⟩; have HL4 := Aside0.mk (HL.out.move hc); have HM := Aside0.mk hm; have HS0 := Aside0.mk hs0; have HC4 := Aside0.mk (Kd.C_below HC2.out hc.below); clear hc hm hs0)
      clear k0 k1 k2 k3
      have d0 := HL4.out.d0
      have d1 := HL4.out.d1
      have d2 := HL4.out.d2
      have d3 := HL4.out.d3
      go_upto_region 13 with (go_at_call 22; refine (greatest_calls N t s A2 c2 lk _ HC4.out HN2.out).mono ?_; rintro e w5 ⟨A4, c4, y0, s1, rfl, hc, hm, hs1, _⟩; have HL5 := Aside0.mk (HL4.out.move hc); have HM5 := Aside0.mk hm; have HS1 := Aside0.mk hs1; have HS05 := Aside0.mk (Kd.C_below HS0.out hc.below); clear hc hm hs1)
      clear d0 d1 d2 d3
      have hlaw := turn_law HT.out HN.out HM.out HM5.out
      have hls0 := HM.out.sd.1
      have hls1 := HM5.out.sd.1
      have hN64 := HN.out.arg.2.1
      have hs0l : s0.length ≤ 64 := by omega
      have hsl : s1.length = s0.length := by omega
      have HP := Aside0.mk (show ∀ v : Int, 0 ≤ v → v < s0.length → gb s0 v = true → gb s1 v = false from fun v v0 v1 hv => hlaw.2 v v0 (by omega) hv)
      have hve := hlaw.1
      have HSL := Aside0.mk hsl
      clear hlaw hls0 hls1 hN64 hsl
      generalize sur l x0 s = va at *
      generalize sur lk y0 t = vb at *
      have f1 : (va != vb) = false := by rw [hve]; simp
      clear hve
      go_wp2
      clear f1
      go_loopw [75] (fun i W => ∃ k : Nat, k ≤ s0.length ∧ i = .int .i64 k ∧ W = w5) (fun i W => s0.length - (intOf i).toNat)
      case atStart => exact ⟨0, by omega, rfl, rfl⟩
      case round =>
        obtain ⟨k, hk, rfl, rfl⟩ := hrel
        by_cases hlt : k < s0.length
        · have hsl := HSL.out
          obtain ⟨ad3, rfl, q0⟩ := at_gb HS05.out k (by omega) (by omega)
          obtain ⟨ad2, rfl, q1⟩ := at_gb HS1.out k (by omega) (by omega)
          simp only [Int.toNat_natCast] at q0 q1
          have hkl : k < s1.length := by omega
          have hle := HP.out k (by omega) (by omega)
          clear hsl
          cases hg : gb s0 k with
          | false =>
            rw [hg] at q0
            clear hle hg
            go_wp2
            go_roundw
            case rel => exact ⟨k + 1, by omega, by go_num, trivial⟩
            case measure => simp [intOf]; omega
          | true =>
            rw [hg] at q0
            rw [hle hg] at q1
            clear hle hg
            go_wp2
            go_roundw
            case rel => exact ⟨k + 1, by omega, by go_num, trivial⟩
            case measure => simp [intOf]; omega
        · go_wp2
          go_ret
          exact ⟨rfl, HL5.out.ch⟩
end Go.Proofs.Ytipfpckjgfjehaa

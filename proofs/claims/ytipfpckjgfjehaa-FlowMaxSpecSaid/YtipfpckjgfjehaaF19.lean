/-
  fastilaw13.FlowScale: the walk.
-/
import Derived.Test.YtipfpckjgfjehaaF16
import Derived.Test.YtipfpckjgfjehaaP10
namespace Go.Proofs.Ytipfpckjgfjehaa
set_option linter.unusedVariables false
set_option linter.unusedSimpArgs false
open Go.RowKit PFlowMaxSpec Go.Proofs.YtipfpckjgfjehaaW.PrintWords
attribute [local go_sem] Oper.semAt_some

theorem same_self_l0 (xs : List Bool) (hl : xs.length ≤ 1000) : ∀ (d i : Nat), i + d = xs.length → fastiref13_Same.l0 (d + 1) xs xs i = some true
  | 0, i, h => by
    unfold fastiref13_Same.l0
    rw [if_neg (by omega)]
  | d + 1, i, h => by
    have ih := same_self_l0 xs hl d (i + 1) (by omega)
    unfold fastiref13_Same.l0
    rw [if_pos (by omega), if_pos (by omega), if_pos (by omega), if_neg (by simp), show wrap64 ((i : Int) + 1) = ((i + 1 : Nat) : Int) by unfold wrap64; omega]
    exact ih
theorem same_self (xs : List Bool) (hl : xs.length ≤ 1000) : fastiref13_Same.f (xs.length + 1) xs xs = some true := by
  unfold fastiref13_Same.f
  rw [if_pos rfl]
  exact same_self_l0 xs hl xs.length 0 (by omega)

def scaleTo (b : Int) (l : List S43) (k : Nat) : List S43 := ((l.take k).map fun a => ⟨a.f0, a.f1, a.f2 * b⟩) ++ l.drop k
section
variable {b : Int} {l : List S43} {k : Nat}
theorem scaleTo_zero : scaleTo b l 0 = l := by unfold scaleTo; simp
theorem scaleTo_length (h : k ≤ l.length) : (scaleTo b l k).length = l.length := by unfold scaleTo; rw [List.length_append, List.length_map, List.length_take, List.length_drop]; omega
theorem rd_getElem {l : List S43} {k : Nat} (h : k < l.length) : rd_T43 l k = l[k] := by
  unfold rd_T43
  rw [Int.toNat_natCast, List.getD_eq_getElem?_getD, List.getElem?_eq_getElem h]; rfl
theorem scaleTo_at (h : k < l.length) : rd_T43 (scaleTo b l k) k = rd_T43 l k := by
  have h1 : ((l.take k).map fun a : S43 => (⟨a.f0, a.f1, a.f2 * b⟩ : S43)).length = k := by rw [List.length_map, List.length_take]; omega
  unfold rd_T43 scaleTo
  rw [Int.toNat_natCast, List.getD_eq_getElem?_getD, List.getD_eq_getElem?_getD, List.getElem?_append_right (by omega), h1, Nat.sub_self, List.getElem?_drop, Nat.add_zero]
theorem scaleTo_succ (h : k < l.length) : (scaleTo b l k).set k ⟨(rd_T43 l k).f0, (rd_T43 l k).f1, (rd_T43 l k).f2 * b⟩ = scaleTo b l (k + 1) := by
  have h1 : ((l.take k).map fun a : S43 => (⟨a.f0, a.f1, a.f2 * b⟩ : S43)).length = k := by rw [List.length_map, List.length_take]; omega
  unfold scaleTo
  rw [List.set_append_right _ _ (by omega), h1, Nat.sub_self, List.drop_eq_getElem_cons h, List.set_cons_zero, List.take_succ_eq_append_getElem h, List.map_append, rd_getElem h]
  simp
theorem scaleTo_all (b : Int) (l : List S43) : Scaled b l (scaleTo b l l.length) := by
  refine ⟨scaleTo_length (Nat.le_refl _), fun k hk => ?_⟩
  unfold scaleTo rd_T43
  rw [List.take_length, List.drop_length, List.append_nil, Int.toNat_natCast, List.getD_eq_getElem?_getD, List.getElem?_map, List.getD_eq_getElem?_getD, List.getElem?_eq_getElem hk]; rfl
end
theorem Scaled.net {N s t b : Int} {l l' : List S43} (h : Scaled b l l') (hb : 1 ≤ b ∧ b ≤ 8) (hn : NetOk N s t l) (hc : ∀ k : Nat, k < l.length → (rd_T43 l k).f2 ≤ 134217728) : NetOk N s t l' :=
  ⟨hn.arg, by rw [h.1]; exact hn.len, fun k hk => by
    have h2 := h.1
    obtain ⟨a, a1, c, d, e⟩ := hn.arcs k (by omega)
    have hck := hc k (by omega)
    rw [h.2 k (by omega)]
    refine ⟨a, a1, c, Int.mul_nonneg d (by omega), ?_⟩
    have := Int.mul_le_mul hck hb.2 (by omega) (by omega)
    simp only
    omega⟩

set_option maxHeartbeats 4000000 in
set_option maxRecDepth 100000 in
theorem scale_calls (N s t : Int) (A : Option Addr) (c : Nat) (l : List S43) (b : Int) (w : World) (hr : k43.C w A l.length l) (hcap : l.length ≤ c) (hnone : A = none → c = 0) (hb0 : 0 ≤ b) (hb1 : b ≤ 255) :
    Calls Try.prog 7 #[.agg #[.int .i64 N, .int .i64 s, .int .i64 t, .slice A l.length c], .int .u8 b] w fun e w' => e = .returned (.bool true) ∧ Ch [] w w' := by
  have HR := Aside0.mk hr
  have HCAP := Aside0.mk hcap
  have HNONE := Aside0.mk hnone
  clear hr hcap hnone
  go_enter Try.func7, Try.ntmps7
  go_upto_region 3 with (go_at_call 10; refine (sane_calls _).mono ?_; rintro e w1 ⟨rfl, hc⟩; have H1 := Aside0.mk ((LH.start (N := N) (s := s) (t := t) (c := c) HR.out).move hc); clear hc)
  have k0 := H1.out.c0
  have k1 := H1.out.c1
  have k2 := H1.out.c2
  have k3 := H1.out.c3
  cases hf : few N s t l with
  | false =>
    have HF := Aside0.mk hf
    clear hf
    go_wp2_with (go_at_call 17; refine (fastiref13_Few.calls 600 N s t A c l _ _ H1.out.arcs HCAP.out (few_f N s t l)).mono ?_; rintro e w2 ⟨he, hb⟩; rw [HF.out] at he; subst he; have H2 := Aside0.mk (H1.out.move (Ch.of_below hb [])); clear hb)
    go_ret
    exact ⟨rfl, H2.out.ch⟩
  | true =>
  have HF := Aside0.mk hf
  clear hf
  by_cases hz : chk N s t l = 0
  rotate_left
  · obtain ⟨q, hq⟩ : ∃ q, chk N s t l = q := ⟨_, rfl⟩
    rw [hq] at hz
    have b1 : (q != 0) = true := by simpa using hz
    have HZ := Aside0.mk hq
    clear hq hz
    go_wp2_with (first | (go_at_call 17; refine (fastiref13_Few.calls 600 N s t A c l _ _ H1.out.arcs HCAP.out (few_f N s t l)).mono ?_; rintro e w2 ⟨he, hb⟩; rw [HF.out] at he; subst he; have H2 := Aside0.mk (H1.out.move (Ch.of_below hb [])); clear hb; have j0 := H2.out.c0; have j1 := H2.out.c1; have j2 := H2.out.c2; have j3 := H2.out.c3) | (go_at_call 15; refine (check_any N s t A c l _ H2.out.arcs).mono ?_; rintro e w3 ⟨he, hc⟩; rw [HZ.out] at he; subst he; have H3 := Aside0.mk (H2.out.move hc); clear hc))
    go_ret
    exact ⟨rfl, H3.out.ch⟩
  have HZ := Aside0.mk hz
  clear hz
  go_upto_region 5 with (first | (go_at_call 17; refine (fastiref13_Few.calls 600 N s t A c l _ _ H1.out.arcs HCAP.out (few_f N s t l)).mono ?_; rintro e w2 ⟨he, hb⟩; rw [HF.out] at he; subst he; have H2 := Aside0.mk (H1.out.move (Ch.of_below hb [])); clear hb; have j0 := H2.out.c0; have j1 := H2.out.c1; have j2 := H2.out.c2; have j3 := H2.out.c3) | (go_at_call 15; refine (check_any N s t A c l _ H2.out.arcs).mono ?_; rintro e w3 ⟨he, hc⟩; rw [HZ.out] at he; subst he; have H3 := Aside0.mk (H2.out.move hc); clear hc))
  clear k0 k1 k2 k3 j0 j1 j2 j3
  go_upto_region 6 with (fail)
  obtain ⟨kk, hkk⟩ : ∃ kk : Int, kk = 1 + b % 8 := ⟨_, rfl⟩
  rw [← hkk]
  have hk1 : 1 ≤ kk := by omega
  have hk8 : kk ≤ 8 := by omega
  clear hkk
  have k0 := H3.out.c0
  have k1 := H3.out.c1
  have k2 := H3.out.c2
  have k3 := H3.out.c3
  have kz := blk_lt H3.out.blk
  go_upto_region 7 with (fail)
  have hn := NetOk.of HZ.out
  have hl5 := hn.len
  have HN := Aside0.mk hn
  have HLL := Aside0.mk (show l.length ≤ 100000 by omega)
  clear hn
  refine wp_abs (fun W => LH N s t A c l w W w.heap.size ∧ W.heap[w3.heap.size]? = some (.cells #[.int .i64 N, .int .i64 s, .int .i64 t, .slice A l.length c] 24 (0, 0))) ?_ ?_
  · exact ⟨H3.out.move ((Ch.refl _ _).alloc _), blk_new _ _⟩
  obtain ⟨p2, hp2⟩ : ∃ p2, p2 = w3.heap.size := ⟨_, rfl⟩
  rw [← hp2]
  have HZ2 := Aside0.mk (show w.heap.size < p2 by rw [hp2]; exact kz)
  clear k0 k1 k2 k3 kz hp2 H3 H1 H2
  intro W hW
  have HW := Aside0.mk hW
  clear hW
  have k3 := HW.out.1.c3
  have kp := blk_lt HW.out.1.blk
  have kp2 := blk_lt HW.out.2
  have f3 := blk_free HW.out.2 3
  go_wp2_with (at_builtin; refine pl_append_copyA (.tmp 29) (.tmp 31) 22 A c l w.heap.size W.heap.size W rfl rfl Try.underlying22 info43' rfl rfl rfl HW.out.1.arcs HNONE.out HW.out.1.ch.size HLL.out ?_; intro v' w1 hr hg; obtain ⟨A1, c1, hv1⟩ := hr.val; subst hv1; have happ := L2.first HR.out HW.out.1 HW.out.2 (Nat.le_of_lt HZ2.out) (Nat.ne_of_lt HZ2.out) (Nat.le_refl _) hg hr; have r1 := happ.2.1; have r2 := happ.2.2.1; have r3 := happ.2.2.2; have HAP := Aside0.mk happ.1; clear hr hg happ)
  refine wp_abs (fun W => L2 N s t A c l w W w.heap.size s t p2 (.slice A1 l.length c1) l) HAP.out ?_
  clear HAP r1 r2 r3 k3 kp kp2 f3 HW
  intro W2 hW
  have HW := Aside0.mk hW
  clear hW
  go_loopw [37] (fun i wr => ∃ k : Nat, k ≤ l.length ∧ i = .int .i64 k ∧ Aside0 (L2 N s t A c l w wr w.heap.size s t p2 (.slice A1 l.length c1) (scaleTo kk l k) ∧ ∀ j : Nat, j < k → (rd_T43 l j).f2 ≤ 134217728)) (fun i wr => l.length - (intOf i).toNat)
  case atStart => exact ⟨0, by omega, rfl, ⟨by rw [scaleTo_zero]; exact HW.out, fun j hj => by omega⟩⟩
  case round =>
    obtain ⟨k, hk, rfl, hrel⟩ := hrel
    have HL := Aside0.mk hrel.out.1
    have HC := Aside0.mk hrel.out.2
    clear hrel HW
    have d3 := HL.out.d3
    by_cases hlt : k < l.length
    · have hlen := scaleTo_length (b := kk) hk
      obtain ⟨g, c2, hv, hglt, q0, q1, hnext⟩ := HL.out.third k (by omega) ((rd_T43 l k).f2 * kk)
      rw [hlen] at hv
      simp only [Value.slice.injEq, true_and] at hv
      obtain ⟨rfl, rfl⟩ := hv
      rw [scaleTo_at hlt] at q0 hnext
      rw [scaleTo_succ hlt] at hnext
      have hok := HN.out.arcs k hlt
      obtain ⟨_, _, _, i2, i3⟩ := hok
      have HNX := Aside0.mk hnext
      clear hnext hlen
      generalize hy : (rd_T43 l k).f2 = y at *
      have HYY := Aside0.mk hy
      clear hy
      by_cases hy2 : y ≤ 134217728
      · have hm0 : 0 ≤ y * kk := Int.mul_nonneg i2 (by omega)
        have hm1 : y * kk ≤ 1073741824 := by
          have := Int.mul_le_mul hy2 hk8 (by omega) (by omega)
          omega
        go_wp2
        go_roundw
        case rel => exact ⟨k + 1, by omega, by go_num, ⟨HNX.out, fun j hj => by
          by_cases e : j = k
          · subst e; rw [HYY.out]; exact hy2
          · exact HC.out j (by omega)⟩⟩
        case measure => simp [intOf]; omega
      · go_wp2
        go_ret
        exact ⟨rfl, HL.out.ch⟩
    · obtain rfl : k = l.length := by omega
      have HT := Aside0.mk (scaleTo_all kk l)
      have HN2 := Aside0.mk (HT.out.net ⟨hk1, hk8⟩ HN.out HC.out)
      have hlk := scaleTo_length (b := kk) (Nat.le_refl l.length)
      obtain ⟨A2, c2, hv, _, hC2⟩ := HL.out.row.toC (by omega)
      rw [hlk] at hv
      simp only [Value.slice.injEq, true_and] at hv
      obtain ⟨rfl, rfl⟩ := hv
      have HC2 := Aside0.mk hC2
      have HLK := Aside0.mk hlk
      have k0 := HL.out.h.c0
      have k1 := HL.out.h.c1
      have k2 := HL.out.h.c2
      have k3 := HL.out.h.c3
      clear hC2 hlk d3
      generalize scaleTo kk l l.length = lk at *
      go_upto_region 16 with (go_at_call 22; refine (greatest_calls N s t A c l _ HL.out.h.arcs HZ.out).mono ?_; rintro e w4 ⟨A3, c3, x0, s0, rfl, hc, hm, hs0, hle0⟩; have HL4 := Aside0.mk (HL.out.move hc); have HM := Aside0.mk hm; have HS0 := Aside0.mk (And.intro hs0 hle0); have HC4 := Aside0.mk (Kd.C_below HC2.out hc.below); clear hc hm hs0 hle0)
      clear k0 k1 k2 k3
      have d0 := HL4.out.d0
      have d1 := HL4.out.d1
      have d2 := HL4.out.d2
      have d3 := HL4.out.d3
      have G2 : ∀ W, k43.C W A1 lk.length lk → Calls Try.prog 22 #[.agg #[.int .i64 N, .int .i64 s, .int .i64 t, .slice A1 l.length c1]] W fun e w' => ∃ A2 c2 x side, e = .returned (.tuple #[.int .i64 (sur lk x s), .slice A2 side.length c2, .bool true]) ∧ Ch [] W w' ∧ MaxRes N s t lk x side ∧ Kd.bool.C w' A2 side.length side ∧ side.length ≤ c2 := fun W hW => by
        rw [← HLK.out]
        exact greatest_calls N s t A1 c1 lk W hW (chk_of_net HN2.out)
      have HG2 := Aside0.mk G2
      clear G2
      go_upto_region 17 with (go_at_call 22; refine (HG2.out _ HC4.out).mono ?_; rintro e w5 ⟨A4, c4, y0, s1, rfl, hc, hm, hs1, hle1⟩; have HL5 := Aside0.mk (HL4.out.move hc); have HM5 := Aside0.mk hm; have HS1 := Aside0.mk (And.intro hs1 hle1); have HS05 := Aside0.mk (Kd.C_below HS0.out.1 hc.below); clear hc hm hs1 hle1)
      clear d0 d1 d2 d3
      have hlaw := scale_law hk1 HT.out HN.out HN2.out HM.out HM5.out
      have hbo := flow_bound HN2.out HM5.out.flow
      have hve := hlaw.1
      have HSE := Aside0.mk hlaw.2
      have hls0 := HM.out.sd.1
      have hN64 := HN.out.arg.2.1
      have HSM := Aside0.mk (same_self s0 (by omega))
      clear hlaw hls0 hN64
      generalize sur l x0 s = va at *
      generalize sur lk y0 s = vb at *
      rw [hve] at hbo
      have g1 : -549755813888 ≤ kk * va := hbo.1
      have g2 : kk * va ≤ 549755813888 := hbo.2
      have f1 : (vb == kk * va) = true := by rw [hve]; simp
      clear hve hbo
      go_wp2_with (go_at_call 21; refine (fastiref13_Same.calls (s0.length + 1) A3 c3 s0 A4 c4 s1 true _ HS05.out HS0.out.2 HS1.out.1 HS1.out.2 (by rw [← HSE.out]; exact HSM.out)).mono ?_; rintro e w6 ⟨rfl, hd⟩; have HD := Aside0.mk hd; clear hd)
      go_ret
      exact ⟨rfl, HL5.out.ch.trans (Ch.of_below HD.out.below []) (by simp)⟩
end Go.Proofs.Ytipfpckjgfjehaa

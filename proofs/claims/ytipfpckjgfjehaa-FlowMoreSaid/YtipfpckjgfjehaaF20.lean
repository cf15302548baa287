/-
  fastilaw13.FlowMore: the walk.
-/
import Derived.Test.YtipfpckjgfjehaaF16
import Derived.Test.YtipfpckjgfjehaaP10
namespace Go.Proofs.Ytipfpckjgfjehaa
set_option linter.unusedVariables false
set_option linter.unusedSimpArgs false
open Go.RowKit PFlowMaxSpec Go.Proofs.YtipfpckjgfjehaaW.PrintWords
attribute [local go_sem] Oper.semAt_some

theorem RowA.three {w : World} {B : Nat} {v : Value} {l : List S43} {g n c : Nat} (h : RowA w B v l) (hv : v = .slice (some ⟨g, 0, none⟩) n c) (i : Nat) (hi : i < l.length) :
    w.cell? ⟨g, i * 3, none⟩ = some (.int .i64 (rd_T43 l i).f0) ∧ w.cell? ⟨g, i * 3 + 1, none⟩ = some (.int .i64 (rd_T43 l i).f1) ∧ w.cell? ⟨g, i * 3 + 2, none⟩ = some (.int .i64 (rd_T43 l i).f2) ∧ w.frozen? ⟨g, i * 3 + 2, none⟩ = false ∧ g < w.heap.size := by
  obtain ⟨A, c', hv'⟩ := h.val
  rw [hv] at hv'
  simp only [Value.slice.injEq] at hv'
  obtain ⟨_, rfl, _⟩ := hv'
  subst hv
  have h' : w.ownsRow B 43 3 (.slice (some ⟨g, 0, none⟩) l.length c) l.length (arcL l) := h
  have e : rd_T43 l i = l[i] := by
    unfold rd_T43
    rw [Int.toNat_natCast, List.getD_eq_getElem?_getD, List.getElem?_eq_getElem hi]; rfl
  rw [e]
  refine ⟨?_, ?_, ?_, h'.frozenAt _, (h.lt g rfl).2⟩
  · have := arcL_get l i 0 hi (by omega)
    rw [Nat.add_zero] at this
    rw [h'.cellAt (i * 3) (by omega), this]; rfl
  · rw [h'.cellAt (i * 3 + 1) (by omega), arcL_get l i 1 hi (by omega)]; rfl
  · rw [h'.cellAt (i * 3 + 2) (by omega), arcL_get l i 2 hi (by omega)]; rfl
theorem raised_set {l : List S43} {i : Nat} (hi : i < l.length) (b : Int) : Raised i b l (l.set i ⟨(rd_T43 l i).f0, (rd_T43 l i).f1, (rd_T43 l i).f2 + b⟩) := by
  refine ⟨List.length_set, hi, ?_, fun k hk hne => ?_⟩
  · conv => lhs; unfold rd_T43
    rw [Int.toNat_natCast, List.getD_eq_getElem?_getD, List.getElem?_set_self hi]; rfl
  · show List.getD (l.set i _) ((k : Int)).toNat z43 = l.getD ((k : Int)).toNat z43
    rw [Int.toNat_natCast, List.getD_eq_getElem?_getD, List.getElem?_set_ne (Ne.symm hne), ← List.getD_eq_getElem?_getD]

set_option maxHeartbeats 4000000 in
set_option maxRecDepth 100000 in
theorem more_calls (N s t : Int) (A : Option Addr) (c : Nat) (l : List S43) (i0 b : Int) (w : World) (hr : k43.C w A l.length l) (hcap : l.length ≤ c) (hnone : A = none → c = 0) (hi0 : 0 ≤ i0) (hi1 : i0 ≤ 255) (hb0 : 0 ≤ b) (hb1 : b ≤ 65535) :
    Calls Try.prog 9 #[.agg #[.int .i64 N, .int .i64 s, .int .i64 t, .slice A l.length c], .int .u8 i0, .int .u16 b] w fun e w' => e = .returned (.bool true) ∧ Ch [] w w' := by
  have HR := Aside0.mk hr
  have HCAP := Aside0.mk hcap
  have HNONE := Aside0.mk hnone
  clear hr hcap hnone
  go_enter Try.func9, Try.ntmps9
  go_upto_region 3 with (go_at_call 10; refine (sane_calls _).mono ?_; rintro e w1 ⟨rfl, hc⟩; have H1 := Aside0.mk ((LH.start (N := N) (s := s) (t := t) (c := c) HR.out).move hc); clear hc)
  have k0 := H1.out.c0
  have k1 := H1.out.c1
  have k2 := H1.out.c2
  have k3 := H1.out.c3
  cases hf : few N s t l with
  | false =>
    have HF := Aside0.mk hf
    clear hf
    go_wp2_with (go_at_call 17; refine (fastiref13_Few.calls 600 N s t A c l _ _ H1.out.arcs HCAP.out (few_f N s t l)).mono ?_; rintro e w2 ⟨he, hb⟩; rw [HF.out] at he; subst he; have H2 := Aside0.mk (H1.out.move (Ch.of_below hb [])); clear hb)
    go_ret
    exact ⟨rfl, H2.out.ch⟩
  | true =>
  have HF := Aside0.mk hf
  clear hf
  by_cases hz : chk N s t l = 0
  rotate_left
  · obtain ⟨q, hq⟩ : ∃ q, chk N s t l = q := ⟨_, rfl⟩
    rw [hq] at hz
    have b1 : (q != 0) = true := by simpa using hz
    have HZ := Aside0.mk hq
    clear hq hz
    go_wp2_with (first | (go_at_call 17; refine (fastiref13_Few.calls 600 N s t A c l _ _ H1.out.arcs HCAP.out (few_f N s t l)).mono ?_; rintro e w2 ⟨he, hb⟩; rw [HF.out] at he; subst he; have H2 := Aside0.mk (H1.out.move (Ch.of_below hb [])); clear hb; have j0 := H2.out.c0; have j1 := H2.out.c1; have j2 := H2.out.c2; have j3 := H2.out.c3) | (go_at_call 15; refine (check_any N s t A c l _ H2.out.arcs).mono ?_; rintro e w3 ⟨he, hc⟩; rw [HZ.out] at he; subst he; have H3 := Aside0.mk (H2.out.move hc); clear hc))
    go_ret
    exact ⟨rfl, H3.out.ch⟩
  have HZ := Aside0.mk hz
  clear hz
  by_cases hl0 : l.length = 0
  · have b1 : ((l.length : Int) == 0) = true := by simp [hl0]
    clear hl0
    go_wp2_with (first | (go_at_call 17; refine (fastiref13_Few.calls 600 N s t A c l _ _ H1.out.arcs HCAP.out (few_f N s t l)).mono ?_; rintro e w2 ⟨he, hb⟩; rw [HF.out] at he; subst he; have H2 := Aside0.mk (H1.out.move (Ch.of_below hb [])); clear hb; have j0 := H2.out.c0; have j1 := H2.out.c1; have j2 := H2.out.c2; have j3 := H2.out.c3) | (go_at_call 15; refine (check_any N s t A c l _ H2.out.arcs).mono ?_; rintro e w3 ⟨he, hc⟩; rw [HZ.out] at he; subst he; have H3 := Aside0.mk (H2.out.move hc); clear hc; have l3 := H3.out.c3))
    go_ret
    exact ⟨rfl, H3.out.ch⟩
  have b1 : ((l.length : Int) == 0) = false := by simp; intro h; exact hl0 (by rw [h]; rfl)
  have hlp : 0 < l.length := Nat.pos_of_ne_zero hl0
  have HL0 := Aside0.mk hlp
  clear hl0 hlp
  go_upto_region 5 with (first | (go_at_call 17; refine (fastiref13_Few.calls 600 N s t A c l _ _ H1.out.arcs HCAP.out (few_f N s t l)).mono ?_; rintro e w2 ⟨he, hb⟩; rw [HF.out] at he; subst he; have H2 := Aside0.mk (H1.out.move (Ch.of_below hb [])); clear hb; have j0 := H2.out.c0; have j1 := H2.out.c1; have j2 := H2.out.c2; have j3 := H2.out.c3) | (go_at_call 15; refine (check_any N s t A c l _ H2.out.arcs).mono ?_; rintro e w3 ⟨he, hc⟩; rw [HZ.out] at he; subst he; have H3 := Aside0.mk (H2.out.move hc); clear hc; have l3 := H3.out.c3))
  clear k0 k1 k2 k3 j0 j1 j2 j3 l3 b1
  have k0 := H3.out.c0
  have k1 := H3.out.c1
  have k2 := H3.out.c2
  have k3 := H3.out.c3
  have kz := blk_lt H3.out.blk
  go_upto_region 6 with (fail)
  have hn := NetOk.of HZ.out
  have hl5 := hn.len
  have HN := Aside0.mk hn
  have HLL := Aside0.mk (show l.length ≤ 100000 by omega)
  clear hn
  refine wp_abs (fun W => LH N s t A c l w W w.heap.size ∧ W.heap[w3.heap.size]? = some (.cells #[.int .i64 N, .int .i64 s, .int .i64 t, .slice A l.length c] 24 (0, 0))) ?_ ?_
  · exact ⟨H3.out.move ((Ch.refl _ _).alloc _), blk_new _ _⟩
  obtain ⟨p2, hp2⟩ : ∃ p2, p2 = w3.heap.size := ⟨_, rfl⟩
  rw [← hp2]
  have HZ2 := Aside0.mk (show w.heap.size < p2 by rw [hp2]; exact kz)
  clear k0 k1 k2 k3 kz hp2 H3 H1 H2
  intro W hW
  have HW := Aside0.mk hW
  clear hW
  have k3 := HW.out.1.c3
  have kp := blk_lt HW.out.1.blk
  have kp2 := blk_lt HW.out.2
  have f3 := blk_free HW.out.2 3
  go_upto_region 7 with (at_builtin; refine pl_append_copyA (.tmp 33) (.tmp 35) 22 A c l w.heap.size W.heap.size W rfl rfl Try.underlying22 info43' rfl rfl rfl HW.out.1.arcs HNONE.out HW.out.1.ch.size HLL.out ?_; intro v' w1 hr hg; obtain ⟨A1, c1, hv1⟩ := hr.val; subst hv1; have happ := L2.first HR.out HW.out.1 HW.out.2 (Nat.le_of_lt HZ2.out) (Nat.ne_of_lt HZ2.out) (Nat.le_refl _) hg hr; have r1 := happ.2.1; have r2 := happ.2.2.1; have r3 := happ.2.2.2; have HAP := Aside0.mk happ.1; clear hr hg happ)
  refine wp_abs (fun W => L2 N s t A c l w W w.heap.size s t p2 (.slice A1 l.length c1) l) HAP.out ?_
  clear HAP r1 r2 r3 k3 kp kp2 f3 HW
  intro W2 hW
  have HW := Aside0.mk hW
  clear hW
  obtain ⟨g, c2, hv, z1⟩ := HW.out.third 0 HL0.out 0
  clear z1
  simp only [Value.slice.injEq, true_and] at hv
  obtain ⟨rfl, rfl⟩ := hv
  have k3 := HW.out.h.c3
  have d3 := HW.out.d3
  have hlp := HL0.out
  have q0 : (0 : Int) < (l.length : Int) := by omega
  have q1 : 0 ≤ i0.tmod (l.length : Int) := Int.tmod_nonneg _ hi0
  have q2 : i0.tmod (l.length : Int) < (l.length : Int) := Int.tmod_lt_of_pos _ q0
  obtain ⟨ii, hii⟩ : ∃ ii : Nat, i0.tmod (l.length : Int) = ii := ⟨(i0.tmod (l.length : Int)).toNat, by omega⟩
  go_quiet (fail)
  go_upto_region 8 with (fail)
  refine wp_abs (fun W => L2 N s t A c l w W w.heap.size s t p2 (.slice (some ⟨g, 0, none⟩) l.length c1) l) (HW.out.move ((Ch.refl [] _).drewN _)) ?_
  have hilt : ii < l.length := by omega
  clear HW q0 q1 q2 hii k3 d3 hlp
  intro W hW
  have HW := Aside0.mk hW
  clear hW
  have hth := HW.out.row.three rfl ii hilt
  obtain ⟨c0, c1', c2', c3', cg⟩ := hth
  obtain ⟨g', c2, hv, z1, z2, z3, hnext⟩ := HW.out.third ii hilt ((rd_T43 l ii).f2 + b)
  clear z1 z2 z3
  simp only [Value.slice.injEq, true_and, Option.some.injEq, Addr.mk.injEq, and_true] at hv
  obtain ⟨rfl, rfl⟩ := hv
  have HNX := Aside0.mk hnext
  have HRA := Aside0.mk (raised_set hilt b)
  obtain ⟨_, _, _, i2, i3⟩ := HN.out.arcs ii hilt
  have hy : ∃ y, rd_T43 l ii = y := ⟨_, rfl⟩
  obtain ⟨y, hy⟩ := hy
  rw [hy] at c0 c1' c2' i2 i3 HNX HRA
  have HY := Aside0.mk hy
  clear hy hnext
  obtain ⟨y0, y1, y2⟩ := y
  simp only at c0 c1' c2' i2 i3 HNX HRA
  go_upto_region 9 with (fail)
  refine wp_abs (fun W => L2 N s t A c l w W w.heap.size s t p2 (.slice (some ⟨g, 0, none⟩) l.length c1) (l.set ii ⟨y0, y1, y2 + b⟩)) HNX.out ?_
  clear HNX c0 c1' c2' c3' cg HW
  intro W3 hW
  have HW := Aside0.mk hW
  clear hW
  have hth := HW.out.row.three rfl ii (by rw [List.length_set]; exact hilt)
  rw [HRA.out.2.2.1, HY.out] at hth
  obtain ⟨c0, c1', c2', c3', cg⟩ := hth
  simp only at c0 c1' c2'
  by_cases hbig : 1073741824 < y2 + b
  · go_wp2
    go_ret
    exact ⟨rfl, HW.out.ch⟩
  go_upto_region 11 with (fail)
  clear c0 c1' c2' c3' cg
  have HN2 := Aside0.mk (HRA.out.net hb0 HN.out (by rw [HY.out]; show y2 + b ≤ _; omega))
  have hlk : (l.set ii ⟨y0, y1, y2 + b⟩).length = l.length := List.length_set
  obtain ⟨A2, c2, hv, _, hC2⟩ := HW.out.row.toC (by omega)
  rw [hlk] at hv
  simp only [Value.slice.injEq, true_and] at hv
  obtain ⟨rfl, rfl⟩ := hv
  have HC2 := Aside0.mk hC2
  have HLK := Aside0.mk hlk
  have k0 := HW.out.h.c0
  have k1 := HW.out.h.c1
  have k2 := HW.out.h.c2
  have k3 := HW.out.h.c3
  clear hC2 hlk
  generalize l.set ii ⟨y0, y1, y2 + b⟩ = lk at *
  go_upto_region 12 with (go_at_call 22; refine (greatest_calls N s t A c l _ HW.out.h.arcs HZ.out).mono ?_; rintro e w4 ⟨A3, c3, x0, s0, rfl, hc, hm, hs0, hle0⟩; have HL4 := Aside0.mk (HW.out.move hc); have HM := Aside0.mk hm; have HS0 := Aside0.mk (And.intro hs0 hle0); have HC4 := Aside0.mk (Kd.C_below HC2.out hc.below); clear hc hm hs0 hle0)
  clear k0 k1 k2 k3
  have d0 := HL4.out.d0
  have d1 := HL4.out.d1
  have d2 := HL4.out.d2
  have d3 := HL4.out.d3
  have G2 : ∀ W, k43.C W (some ⟨g, 0, none⟩) lk.length lk → Calls Try.prog 22 #[.agg #[.int .i64 N, .int .i64 s, .int .i64 t, .slice (some ⟨g, 0, none⟩) l.length c1]] W fun e w' => ∃ A2 c2 x side, e = .returned (.tuple #[.int .i64 (sur lk x s), .slice A2 side.length c2, .bool true]) ∧ Ch [] W w' ∧ MaxRes N s t lk x side ∧ Kd.bool.C w' A2 side.length side ∧ side.length ≤ c2 := fun W hW => by
    rw [← HLK.out]
    exact greatest_calls N s t (some ⟨g, 0, none⟩) c1 lk W hW (chk_of_net HN2.out)
  have HG2 := Aside0.mk G2
  clear G2
  go_upto_region 13 with (go_at_call 22; refine (HG2.out _ HC4.out).mono ?_; rintro e w5 ⟨A4, c4, x1, s1, rfl, hc, hm, hs1, hle1⟩; have HL5 := Aside0.mk (HL4.out.move hc); have HM5 := Aside0.mk hm; have HS05 := Aside0.mk (Kd.C_below HS0.out.1 hc.below); clear hc hm hs1 hle1)
  clear d0 d1 d2 d3
  have hth := HL5.out.row.three rfl ii (by rw [HLK.out]; exact hilt)
  rw [HRA.out.2.2.1, HY.out] at hth
  obtain ⟨c0, c1', c2', c3', cg⟩ := hth
  simp only at c0 c1' c2'
  have hlaw := more_law hb0 HRA.out HN.out HN2.out HM.out HM5.out
  rw [HY.out] at hlaw
  simp only at hlaw
  have hbo := flow_bound HN.out HM.out.flow
  have hls0 := HM.out.sd.1
  have hN64 := HN.out.arg.2.1
  obtain ⟨ha0, ha1, _⟩ := HN.out.arcs ii hilt
  rw [HY.out] at ha0 ha1
  simp only at ha0 ha1
  obtain ⟨y00, y01⟩ := inV_true.1 ha0
  obtain ⟨y10, y11⟩ := inV_true.1 ha1
  obtain ⟨ad0, rfl, g0⟩ := at_gb HS05.out y0 y00 (by omega)
  obtain ⟨_, e1, g1⟩ := at_gb HS05.out y1 y10 (by omega)
  cases e1
  have z0 : y0 < (s0.length : Int) := by omega
  have z1 : y1 < (s0.length : Int) := by omega
  obtain ⟨p1, p2', p3⟩ := hlaw
  have HP3 := Aside0.mk p3
  clear c2' c3' ha0 ha1 hls0 hN64 p3
  have b1 := hbo.1
  have b2 := hbo.2
  clear hbo
  generalize sur l x0 s = va at *
  generalize sur lk x1 s = vb at *
  have f1 : decide (va ≤ vb) = true := decide_eq_true p1
  have f2 : decide (vb ≤ va + b) = true := decide_eq_true p2'
  cases q0 : gb s0 y0 with
  | false =>
    rw [q0] at g0
    have hve := HP3.out (fun h => by rw [q0] at h; cases h.1)
    have f3 : (vb == va) = true := by rw [hve]; simp
    clear hve q0
    go_wp2
    go_ret
    exact ⟨rfl, HL5.out.ch⟩
  | true =>
    rw [q0] at g0
    cases q1 : gb s0 y1 with
    | true =>
      rw [q1] at g1
      have hve := HP3.out (fun h => by rw [q1] at h; cases h.2)
      have f3 : (vb == va) = true := by rw [hve]; simp
      clear hve q0 q1
      go_wp2
      go_ret
      exact ⟨rfl, HL5.out.ch⟩
    | false =>
      rw [q1] at g1
      clear q0 q1
      go_wp2
      go_ret
      exact ⟨rfl, HL5.out.ch⟩
end Go.Proofs.Ytipfpckjgfjehaa

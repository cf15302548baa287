/-
  flow.Cut: the walk.
-/
import Derived.Test.YtipfpckjgfjehaaF5
import Derived.Test.YtipfpckjgfjehaaP2
namespace Go.Proofs.Ytipfpckjgfjehaa
set_option linter.unusedVariables false
set_option linter.unusedSimpArgs false
open Go.RowKit PFlowMaxSpec Go.Proofs.YtipfpckjgfjehaaW.PrintWords
attribute [local go_sem] Oper.semAt_some

theorem at_gi {w : World} {A : Option Addr} {n : Nat} {xs : List Int} (h : (Kd.int .i64).C w A n xs) (i : Int) (h0 : 0 ≤ i) (h1 : i < n) : ∃ ad, A = some ad ∧ w.cell? (ad.add i.toNat) = some (.int .i64 (gi xs i)) := Kd.at_int h i h0 h1
theorem at_gb {w : World} {A : Option Addr} {n : Nat} {xs : List Bool} (h : Kd.bool.C w A n xs) (i : Int) (h0 : 0 ≤ i) (h1 : i < n) : ∃ ad, A = some ad ∧ w.cell? (ad.add i.toNat) = some (.bool (gb xs i)) := Kd.at_bool h i h0 h1

def sideOk (N s t : Int) (side : List Bool) : Prop := (side.length : Int) = N ∧ gb side s = true ∧ gb side t = false
instance (N s t : Int) (side : List Bool) : Decidable (sideOk N s t side) := by unfold sideOk; infer_instance
def cutK (l : List S43) (side : List Bool) (n : Nat) : Int := sumR n (fun k => if gb side (rd_T43 l k).f0 = true ∧ gb side (rd_T43 l k).f1 = false then (rd_T43 l k).f2 else 0)
def cutOf (l : List S43) (side : List Bool) : Int := cutK l side l.length
theorem cutK_bound {N : Int} {l : List S43} (ha : ∀ k : Nat, k < l.length → arcOk N (rd_T43 l k)) (side : List Bool) : ∀ n : Nat, n ≤ l.length → 0 ≤ cutK l side n ∧ cutK l side n ≤ 1073741824 * n
  | 0, _ => by simp [cutK, sumR]
  | n + 1, h => by
    have ih := cutK_bound ha side n (by omega)
    have hk := (ha n (by omega)).2.2.2
    unfold cutK at ih ⊢
    simp only [sumR]
    split <;> omega
theorem cutK_succ_in {l : List S43} {side : List Bool} {k : Nat} (h0 : gb side (rd_T43 l k).f0 = true) (h1 : gb side (rd_T43 l k).f1 = false) : cutK l side (k + 1) = cutK l side k + (rd_T43 l k).f2 := by
  unfold cutK; simp only [sumR]; rw [if_pos ⟨h0, h1⟩]
theorem cutK_succ_out {l : List S43} {side : List Bool} {k : Nat} (h : ¬ (gb side (rd_T43 l k).f0 = true ∧ gb side (rd_T43 l k).f1 = false)) : cutK l side (k + 1) = cutK l side k := by
  unfold cutK; simp only [sumR]; rw [if_neg h, Int.add_zero]
/-- P13.1: the cut of a side. -/
def cut (N s t : Int) (l : List S43) (side : List Bool) : Int × Int := if chk N s t l = 0 then (if sideOk N s t side then (cutOf l side, 0) else (0, 130)) else (0, chk N s t l)


set_option maxHeartbeats 4000000 in
theorem cut_calls (N s t : Int) (A : Option Addr) (c : Nat) (l : List S43) (A1 : Option Addr) (c1 : Nat) (side : List Bool) (w : World) (hr : Kd.C k43 w A l.length l) (hl : l.length ≤ 100000) (hr1 : Kd.C Kd.bool w A1 side.length side) (hl1 : side.length ≤ 9223372036854775807) :
    Calls Try.prog 13 #[.agg #[.int .i64 N, .int .i64 s, .int .i64 t, .slice A l.length c], .slice A1 side.length c1] w fun e w' => e = .returned (.tuple #[.int .i64 (cut N s t l side).1, .int .i64 (cut N s t l side).2]) ∧ Ch [] w w' := by
  have HR := Aside0.mk hr
  have HR1 := Aside0.mk hr1
  have HLL := Aside0.mk hl
  have HLS := Aside0.mk hl1
  clear hr hr1
  by_cases hz : chk N s t l = 0
  rotate_left
  · have hcut : cut N s t l side = (0, chk N s t l) := by unfold cut; rw [if_neg hz]
    rw [hcut]
    generalize hq : chk N s t l = q at hz
    have HZ := Aside0.mk hq
    clear hq hcut
    have b1 : (q != 0) = true := by simpa using hz
    go_enter Try.func13, Try.ntmps13
    go_wp2_with (go_at_call 15; refine (check_calls N s t A c l _ (Kd.C_alloc HR.out _) HLL.out).mono ?_; rintro e w1 ⟨he, hc⟩; rw [HZ.out] at he; subst he; have HBK := Aside0.mk (hc.at (blk_new w (.cells #[.int .i64 N, .int .i64 s, .int .i64 t, .slice A l.length c] 24 (0, 0))) (by simp)); have HC := Aside0.mk (((Ch.refl [] w).alloc (.cells #[.int .i64 N, .int .i64 s, .int .i64 t, .slice A l.length c] 24 (0, 0))).trans_same hc); clear hc; have k0 := blk_cell HBK.out 0; have k1 := blk_cell HBK.out 1; have k2 := blk_cell HBK.out 2; have k3 := blk_cell HBK.out 3; simp only [List.getElem?_toArray, List.getElem?_cons_succ, List.getElem?_cons_zero] at k0 k1 k2 k3)
    go_ret2
    exact ⟨rfl, HC.out⟩
  have HZ := Aside0.mk hz
  obtain ⟨hA, hl5, hall⟩ := chk_zero hz
  have HA := Aside0.mk hA
  have HALL := Aside0.mk hall
  clear hz hall
  obtain ⟨hN0, hN1, hs, ht, hst⟩ := hA
  obtain ⟨hs0, hs1⟩ := inV_true.1 hs
  obtain ⟨ht0, ht1⟩ := inV_true.1 ht
  clear hs ht hst
  by_cases a1 : (side.length : Int) = N
  rotate_left
  · have hcut : cut N s t l side = (0, 130) := by unfold cut; rw [if_pos HZ.out, if_neg (fun h => a1 h.1)]
    rw [hcut]
    clear hcut
    have b1 : ((side.length : Int) != N) = true := by simpa using a1
    go_enter Try.func13, Try.ntmps13
    go_wp2_with (go_at_call 15; refine (check_calls N s t A c l _ (Kd.C_alloc HR.out _) HLL.out).mono ?_; rintro e w1 ⟨he, hc⟩; rw [HZ.out] at he; subst he; have HBK := Aside0.mk (hc.at (blk_new w (.cells #[.int .i64 N, .int .i64 s, .int .i64 t, .slice A l.length c] 24 (0, 0))) (by simp)); have HC := Aside0.mk (((Ch.refl [] w).alloc (.cells #[.int .i64 N, .int .i64 s, .int .i64 t, .slice A l.length c] 24 (0, 0))).trans_same hc); clear hc; have k0 := blk_cell HBK.out 0; have k1 := blk_cell HBK.out 1; have k2 := blk_cell HBK.out 2; have k3 := blk_cell HBK.out 3; simp only [List.getElem?_toArray, List.getElem?_cons_succ, List.getElem?_cons_zero] at k0 k1 k2 k3)
    go_ret2
    exact ⟨rfl, HC.out⟩
  have b1 : ((side.length : Int) != N) = false := by simpa using a1
  obtain ⟨ad1, rfl, q1⟩ := at_gb HR1.out s hs0 (by omega)
  obtain ⟨_, e2, q2⟩ := at_gb HR1.out t ht0 (by omega)
  cases e2
  have q1l := World.block_lt_of_cell? w _ q1
  have q2l := World.block_lt_of_cell? w _ q2
  have Q1 := Aside0.mk q1
  have Q2 := Aside0.mk q2
  clear q1 q2
  cases a2 : gb side s with
  | false =>
    have hcut : cut N s t l side = (0, 130) := by unfold cut; rw [if_pos HZ.out, if_neg (fun h => by have h := h.2.1; rw [a2] at h; cases h)]
    rw [hcut]
    clear hcut
    go_enter Try.func13, Try.ntmps13
    go_wp2_with (go_at_call 15; refine (check_calls N s t A c l _ (Kd.C_alloc HR.out _) HLL.out).mono ?_; rintro e w1 ⟨he, hc⟩; rw [HZ.out] at he; subst he; have HBK := Aside0.mk (hc.at (blk_new w (.cells #[.int .i64 N, .int .i64 s, .int .i64 t, .slice A l.length c] 24 (0, 0))) (by simp)); have HC := Aside0.mk (((Ch.refl [] w).alloc (.cells #[.int .i64 N, .int .i64 s, .int .i64 t, .slice A l.length c] 24 (0, 0))).trans_same hc); clear hc; have k0 := blk_cell HBK.out 0; have k1 := blk_cell HBK.out 1; have k2 := blk_cell HBK.out 2; have k3 := blk_cell HBK.out 3; simp only [List.getElem?_toArray, List.getElem?_cons_succ, List.getElem?_cons_zero] at k0 k1 k2 k3; have q1 := (HC.out.cell q1l (by simp)).trans Q1.out; rw [a2] at q1)
    go_ret2
    exact ⟨rfl, HC.out⟩
  | true =>
  cases a3 : gb side t with
  | true =>
    have hcut : cut N s t l side = (0, 130) := by unfold cut; rw [if_pos HZ.out, if_neg (fun h => by have h := h.2.2; rw [a3] at h; cases h)]
    rw [hcut]
    clear hcut
    go_enter Try.func13, Try.ntmps13
    go_wp2_with (go_at_call 15; refine (check_calls N s t A c l _ (Kd.C_alloc HR.out _) HLL.out).mono ?_; rintro e w1 ⟨he, hc⟩; rw [HZ.out] at he; subst he; have HBK := Aside0.mk (hc.at (blk_new w (.cells #[.int .i64 N, .int .i64 s, .int .i64 t, .slice A l.length c] 24 (0, 0))) (by simp)); have HC := Aside0.mk (((Ch.refl [] w).alloc (.cells #[.int .i64 N, .int .i64 s, .int .i64 t, .slice A l.length c] 24 (0, 0))).trans_same hc); clear hc; have k0 := blk_cell HBK.out 0; have k1 := blk_cell HBK.out 1; have k2 := blk_cell HBK.out 2; have k3 := blk_cell HBK.out 3; simp only [List.getElem?_toArray, List.getElem?_cons_succ, List.getElem?_cons_zero] at k0 k1 k2 k3; have q1 := (HC.out.cell q1l (by simp)).trans Q1.out; rw [a2] at q1; have q2 := (HC.out.cell q2l (by simp)).trans Q2.out; rw [a3] at q2)
    go_ret2
    exact ⟨rfl, HC.out⟩
  | false =>
  have hcut : cut N s t l side = (cutOf l side, 0) := by unfold cut; rw [if_pos HZ.out, if_pos ⟨a1, a2, a3⟩]
  rw [hcut]
  clear hcut
  have HA1 := Aside0.mk a1
  go_enter Try.func13, Try.ntmps13
  go_wp2_with (go_at_call 15; refine (check_calls N s t A c l _ (Kd.C_alloc HR.out _) HLL.out).mono ?_; rintro e w1 ⟨he, hc⟩; rw [HZ.out] at he; subst he; have HBK := Aside0.mk (hc.at (blk_new w (.cells #[.int .i64 N, .int .i64 s, .int .i64 t, .slice A l.length c] 24 (0, 0))) (by simp)); have HC := Aside0.mk (((Ch.refl [] w).alloc (.cells #[.int .i64 N, .int .i64 s, .int .i64 t, .slice A l.length c] 24 (0, 0))).trans_same hc); clear hc; have k0 := blk_cell HBK.out 0; have k1 := blk_cell HBK.out 1; have k2 := blk_cell HBK.out 2; have k3 := blk_cell HBK.out 3; simp only [List.getElem?_toArray, List.getElem?_cons_succ, List.getElem?_cons_zero] at k0 k1 k2 k3; have q1 := (HC.out.cell q1l (by simp)).trans Q1.out; rw [a2] at q1; have q2 := (HC.out.cell q2l (by simp)).trans Q2.out; rw [a3] at q2)
  clear q1 q2 k0 k1 k2 k3 a1 a2 a3 b1
  rename_i W
  go_loopw [37, 4] (fun i cc wr => ∃ k : Nat, k ≤ l.length ∧ i = .int .i64 k ∧ cc = .int .i64 (cutK l side k) ∧ Aside0 (Ch [] w wr)) (fun i cc wr => l.length - (intOf i).toNat)
  case atStart => exact ⟨0, by omega, rfl, rfl, HC⟩
  case round =>
    obtain ⟨k, hk, rfl, rfl, HC1⟩ := hrel
    clear HC HBK
    by_cases hlt : k < l.length
    · obtain ⟨ad, rfl, c0, c1, c2⟩ := at_T43 (Kd.C_below HR.out HC1.out.below) k (by omega) (by omega)
      simp only [Int.toNat_natCast] at c0 c1 c2
      have hok := HALL.out k hlt
      have hb := cutK_bound HALL.out side k hk
      have hx : ∃ x, rd_T43 l k = x := ⟨_, rfl⟩
      obtain ⟨x, hx⟩ := hx
      have HX := Aside0.mk hx
      rw [hx] at c0 c1 c2 hok
      obtain ⟨x0, x1, x2⟩ := x
      obtain ⟨i0, i1, _, i2, i3⟩ := hok
      simp only at c0 c1 c2 i0 i1 i2 i3
      obtain ⟨i00, i01⟩ := inV_true.1 i0
      obtain ⟨i10, i11⟩ := inV_true.1 i1
      have hlen := HA1.out
      obtain ⟨_, e2, r1⟩ := at_gb (Kd.C_below HR1.out HC1.out.below) x0 i00 (by omega)
      cases e2
      obtain ⟨_, e2, r2⟩ := at_gb (Kd.C_below HR1.out HC1.out.below) x1 i10 (by omega)
      cases e2
      have hx0l : x0 < (side.length : Int) := by omega
      have hx1l : x1 < (side.length : Int) := by omega
      have hw1 := World.block_lt_of_cell? wr _ r1
      have hw2 := World.block_lt_of_cell? wr _ r2
      clear hx i0 i1 hlen
      have HBB := Aside0.mk hb
      cases g0 : gb side x0 with
      | false =>
        rw [g0] at r1
        have HS := Aside0.mk (cutK_succ_out (l := l) (side := side) (k := k) (fun h => by rw [HX.out] at h; simp only [g0] at h; cases h.1))
        generalize cutK l side k = v at HS hb
        go_wp2
        go_roundw
        case rel => exact ⟨k + 1, by omega, by go_num, by rw [HS.out], ⟨HC1.out.alloc _⟩⟩
        case measure => simp [intOf]; omega
      | true =>
        rw [g0] at r1
        cases g1 : gb side x1 with
        | true =>
          rw [g1] at r2
          have HS := Aside0.mk (cutK_succ_out (l := l) (side := side) (k := k) (fun h => by rw [HX.out] at h; simp only [g1] at h; cases h.2))
          generalize cutK l side k = v at HS hb
          go_wp2
          go_roundw
          case rel => exact ⟨k + 1, by omega, by go_num, by rw [HS.out], ⟨HC1.out.alloc _⟩⟩
          case measure => simp [intOf]; omega
        | false =>
          rw [g1] at r2
          have HS := Aside0.mk (cutK_succ_in (l := l) (side := side) (k := k) (by rw [HX.out]; exact g0) (by rw [HX.out]; exact g1))
          rw [HX.out] at HS
          generalize cutK l side k = v at HS hb
          have hv2 : v ≤ 1073741824 * 512 := by omega
          go_wp2
          go_roundw
          case rel => exact ⟨k + 1, by omega, by go_num, by rw [HS.out], ⟨HC1.out.alloc _⟩⟩
          case measure => simp [intOf]; omega
    · have hke : k = l.length := by omega
      have HK := Aside0.mk hke
      clear hke
      generalize hv : cutK l side k = v
      have HV := Aside0.mk hv
      clear hv
      go_wp2
      go_ret2
      refine ⟨?_, HC1.out⟩
      have := HV.out
      rw [HK.out] at this
      show Ending.returned (.tuple #[.int .i64 v, .int .i64 0]) = _
      rw [← this]
      rfl
end Go.Proofs.Ytipfpckjgfjehaa

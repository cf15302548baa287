/-
  fastilaw13.greatest: the walk.
-/
import Derived.Test.YtipfpckjgfjehaaF10
import Derived.Test.YtipfpckjgfjehaaP7
namespace Go.Proofs.Ytipfpckjgfjehaa
set_option linter.unusedVariables false
set_option linter.unusedSimpArgs false
open Go.RowKit PFlowMaxSpec Go.Proofs.YtipfpckjgfjehaaW.PrintWords
attribute [local go_sem] Oper.semAt_some

set_option maxHeartbeats 2000000 in
set_option maxRecDepth 100000 in
theorem greatest_calls (N s t : Int) (A : Option Addr) (c : Nat) (l : List S43) (w : World) (hr : Kd.C k43 w A l.length l) (hz : chk N s t l = 0) :
    Calls Try.prog 22 #[.agg #[.int .i64 N, .int .i64 s, .int .i64 t, .slice A l.length c]] w fun e w' => ∃ A2 c2 x side, e = .returned (.tuple #[.int .i64 (sur l x s), .slice A2 side.length c2, .bool true]) ∧ Ch [] w w' ∧ MaxRes N s t l x side ∧ Kd.bool.C w' A2 side.length side ∧ side.length ≤ c2 := by
  have HZ := Aside0.mk hz
  have HR := Aside0.mk hr
  have hl5 := (chk_zero hz).2.1
  have HL := Aside0.mk (show l.length ≤ 100000 by omega)
  clear hr hz
  go_enter Try.func22, Try.ntmps22
  go_upto_region 2 with (go_at_call 18; refine (max_calls2 N s t A c l _ (Kd.C_alloc HR.out _) HZ.out).mono ?_; rintro e w1 ⟨A1, c1, A2, c2, x, side, rfl, hc, hm, hx, hs, hle⟩; have HM := Aside0.mk (And.intro ((Ch.al w _).trans hc (by simp)) (And.intro (hc.at (blk_new w _) (by simp)) (And.intro hm (And.intro hx (And.intro hs hle))))); clear hc hm hx hs hle)
  have HV := Aside0.mk (val_of_max HZ.out HM.out.2.2.1)
  have HC := Aside0.mk (cut_of_max HZ.out HM.out.2.2.1)
  have hxl : x.length = l.length := HM.out.2.2.1.flow.1
  have HXL := Aside0.mk (show x.length ≤ 9223372036854775807 by omega)
  have hsl : (side.length : Int) = N := HM.out.2.2.1.sd.1
  have hN := (chk_zero HZ.out).1.2.1
  have HSL := Aside0.mk (show side.length ≤ 9223372036854775807 by omega)
  have HSN := Aside0.mk hsl
  clear hxl hsl
  have k0 := blk_cell HM.out.2.1 0
  have k1 := blk_cell HM.out.2.1 1
  have k2 := blk_cell HM.out.2.1 2
  have k3 := blk_cell HM.out.2.1 3
  simp only [List.getElem?_toArray, List.getElem?_cons_succ, List.getElem?_cons_zero] at k0 k1 k2 k3
  go_upto_region 3 with (go_at_call 11; refine (value_calls N s t A c l A1 c1 x _ (Kd.C_below HR.out HM.out.1.below) HL.out HM.out.2.2.2.1 HXL.out).mono ?_; rintro e w2 ⟨he, hc⟩; rw [HV.out] at he; subst he; have HQ := Aside0.mk hc; clear hc)
  clear k0 k1 k2 k3
  have k0 := blk_cell (HQ.out.at HM.out.2.1 (by simp)) 0
  have k1 := blk_cell (HQ.out.at HM.out.2.1 (by simp)) 1
  have k2 := blk_cell (HQ.out.at HM.out.2.1 (by simp)) 2
  have k3 := blk_cell (HQ.out.at HM.out.2.1 (by simp)) 3
  simp only [List.getElem?_toArray, List.getElem?_cons_succ, List.getElem?_cons_zero] at k0 k1 k2 k3
  go_upto_region 4 with (go_at_call 13; refine (cut_calls N s t A c l A2 c2 side _ (Kd.C_below HR.out (HM.out.1.trans HQ.out (by simp)).below) HL.out (Kd.C_below HM.out.2.2.2.2.1 HQ.out.below) HSL.out).mono ?_; rintro e w3 ⟨he, hc⟩; rw [HC.out] at he; subst he; have HQ3 := Aside0.mk hc; clear hc)
  clear k0 k1 k2 k3
  have k0 := blk_cell (HQ3.out.at (HQ.out.at HM.out.2.1 (by simp)) (by simp)) 0
  simp only [List.getElem?_toArray, List.getElem?_cons_zero] at k0
  have hb : ((side.length : Int) == N) = true := by have := HSN.out; simpa using this
  generalize hsv : sur l x s = v
  have HSV := Aside0.mk hsv
  clear hsv
  go_quiet (fail)
  go_wp2
  go_ret3
  refine ⟨A2, c2, x, side, ?_, ?_, HM.out.2.2.1, Kd.C_drewN (Kd.C_below HM.out.2.2.2.2.1 (HQ.out.trans HQ3.out (by simp)).below) _, HM.out.2.2.2.2.2⟩
  · rw [HSV.out]; rfl
  · exact ((HM.out.1.trans HQ.out (by simp)).trans HQ3.out (by simp)).drewN _
end Go.Proofs.Ytipfpckjgfjehaa

/-
  flow.Value: the walk.
-/
import Derived.Test.YtipfpckjgfjehaaF6
namespace Go.Proofs.Ytipfpckjgfjehaa
set_option linter.unusedVariables false
set_option linter.unusedSimpArgs false
open Go.RowKit PFlowMaxSpec Go.Proofs.YtipfpckjgfjehaaW.PrintWords
attribute [local go_sem] Oper.semAt_some

/-- What a flow takes away from a vertex, less what it brings there, on the first n arcs. -/
def surK (l : List S43) (x : List Int) (n : Nat) (u : Int) : Int := sumR n (fun k => gi x k * (ind (rd_T43 l k).f0 u - ind (rd_T43 l k).f1 u))
def sur (l : List S43) (x : List Int) (u : Int) : Int := surK l x l.length u
def capsOk (l : List S43) (x : List Int) : Prop := ∀ k : Nat, k < l.length → 0 ≤ gi x k ∧ gi x k ≤ (rd_T43 l k).f2
def keepsOk (N s t : Int) (l : List S43) (x : List Int) : Prop := ∀ u : Nat, u < N.toNat → (u : Int) ≠ s → (u : Int) ≠ t → sur l x u = 0
instance (l : List S43) (x : List Int) : Decidable (capsOk l x) := by unfold capsOk; infer_instance
instance (N s t : Int) (l : List S43) (x : List Int) : Decidable (keepsOk N s t l x) := by unfold keepsOk; infer_instance
def flowOk (N s t : Int) (l : List S43) (x : List Int) : Prop := x.length = l.length ∧ capsOk l x ∧ keepsOk N s t l x
instance (N s t : Int) (l : List S43) (x : List Int) : Decidable (flowOk N s t l x) := by unfold flowOk; infer_instance
/-- P13.1: the value of a flow. -/
def val (N s t : Int) (l : List S43) (x : List Int) : Int × Int := if chk N s t l = 0 then (if flowOk N s t l x then (sur l x s, 0) else (0, 130)) else (0, chk N s t l)
theorem surK_succ_from {l : List S43} {x : List Int} {k : Nat} (hne : (rd_T43 l k).f0 ≠ (rd_T43 l k).f1) : surK l x (k + 1) (rd_T43 l k).f0 = surK l x k (rd_T43 l k).f0 + gi x k := by
  unfold surK; simp only [sumR]; rw [ind_self, ind_ne (Ne.symm hne)]; omega
theorem surK_succ_to {l : List S43} {x : List Int} {k : Nat} (hne : (rd_T43 l k).f0 ≠ (rd_T43 l k).f1) : surK l x (k + 1) (rd_T43 l k).f1 = surK l x k (rd_T43 l k).f1 - gi x k := by
  unfold surK; simp only [sumR]; rw [ind_self, ind_ne hne]; omega
theorem surK_succ_other {l : List S43} {x : List Int} {k : Nat} {u : Int} (h0 : (rd_T43 l k).f0 ≠ u) (h1 : (rd_T43 l k).f1 ≠ u) : surK l x (k + 1) u = surK l x k u := by
  unfold surK; simp only [sumR]; rw [ind_ne h0, ind_ne h1]; omega
theorem surK_bound {l : List S43} {x : List Int} {u : Int} : ∀ n : Nat, (∀ k : Nat, k < n → 0 ≤ gi x k ∧ gi x k ≤ 1073741824) → -(1073741824 * (n : Int)) ≤ surK l x n u ∧ surK l x n u ≤ 1073741824 * n
  | 0, _ => by simp [surK, sumR]
  | n + 1, h => by
    have ih := surK_bound (l := l) (u := u) n (fun k hk => h k (by omega))
    have hk := h n (by omega)
    unfold surK at ih ⊢
    simp only [sumR]
    have e : gi x n * (ind (rd_T43 l n).f0 u - ind (rd_T43 l n).f1 u) = 0 ∨ gi x n * (ind (rd_T43 l n).f0 u - ind (rd_T43 l n).f1 u) = gi x n ∨ gi x n * (ind (rd_T43 l n).f0 u - ind (rd_T43 l n).f1 u) = - gi x n := by
      unfold ind
      split <;> split <;> simp <;> omega
    omega
/-- The sums so far. -/
structure Sums (N : Int) (l : List S43) (x : List Int) (k : Nat) (outs : List Int) : Prop where
  len : outs.length = 64
  at_ : ∀ u : Int, 0 ≤ u → u < 64 → gi outs u = surK l x k u
  caps : ∀ j : Nat, j < k → 0 ≤ gi x j ∧ gi x j ≤ (rd_T43 l j).f2
theorem Sums.step {N : Int} {l : List S43} {x : List Int} {k : Nat} {outs : List Int} (h : Sums N l x k outs) (hN : N ≤ 64) (ha : arcOk N (rd_T43 l k)) (hx : 0 ≤ gi x k ∧ gi x k ≤ (rd_T43 l k).f2) :
    Sums N l x (k + 1) ((outs.set (rd_T43 l k).f0.toNat (gi outs (rd_T43 l k).f0 + gi x k)).set (rd_T43 l k).f1.toNat (gi (outs.set (rd_T43 l k).f0.toNat (gi outs (rd_T43 l k).f0 + gi x k)) (rd_T43 l k).f1 - gi x k)) := by
  obtain ⟨i0, i1, hne, _, _⟩ := ha
  obtain ⟨a0, a1⟩ := inV_true.1 i0
  obtain ⟨b0, b1⟩ := inV_true.1 i1
  have hlen := h.len
  refine ⟨by simp [hlen], fun u u0 u1 => ?_, fun j hj => ?_⟩
  · by_cases e1 : u = (rd_T43 l k).f1
    · subst e1
      rw [gi_set_same b0 (by simp; omega), gi_set_other a0 b0 hne, surK_succ_to hne, h.at_ _ b0 (by omega)]
    · rw [gi_set_other b0 u0 (Ne.symm e1)]
      by_cases e0 : u = (rd_T43 l k).f0
      · subst e0
        rw [gi_set_same a0 (by omega), surK_succ_from hne, h.at_ _ a0 (by omega)]
      · rw [gi_set_other a0 u0 (Ne.symm e0), surK_succ_other (Ne.symm e0) (Ne.symm e1), h.at_ _ u0 u1]
  · by_cases e : j = k
    · subst e; exact hx
    · exact h.caps j (by omega)


set_option maxHeartbeats 4000000 in
theorem value_calls (N s t : Int) (A : Option Addr) (c : Nat) (l : List S43) (A1 : Option Addr) (c1 : Nat) (x : List Int) (w : World) (hr : Kd.C k43 w A l.length l) (hl : l.length ≤ 100000) (hr1 : Kd.C (Kd.int .i64) w A1 x.length x) (hl1 : x.length ≤ 9223372036854775807) :
    Calls Try.prog 11 #[.agg #[.int .i64 N, .int .i64 s, .int .i64 t, .slice A l.length c], .slice A1 x.length c1] w fun e w' => e = .returned (.tuple #[.int .i64 (val N s t l x).1, .int .i64 (val N s t l x).2]) ∧ Ch [] w w' := by
  have HR := Aside0.mk hr
  have HR1 := Aside0.mk hr1
  have HLL := Aside0.mk hl
  have HLS := Aside0.mk hl1
  clear hr hr1
  by_cases hz : chk N s t l = 0
  rotate_left
  · have hval : val N s t l x = (0, chk N s t l) := by unfold val; rw [if_neg hz]
    rw [hval]
    generalize hq : chk N s t l = q at hz
    have HZ := Aside0.mk hq
    clear hq hval
    have b1 : (q != 0) = true := by simpa using hz
    go_enter Try.func11, Try.ntmps11
    go_wp2_with (go_at_call 15; refine (check_calls N s t A c l _ (Kd.C_alloc HR.out _) HLL.out).mono ?_; rintro e w1 ⟨he, hc⟩; rw [HZ.out] at he; subst he; have HBK := Aside0.mk (hc.at (blk_new w (.cells #[.int .i64 N, .int .i64 s, .int .i64 t, .slice A l.length c] 24 (0, 0))) (by simp)); have HC := Aside0.mk (((Ch.refl [] w).alloc (.cells #[.int .i64 N, .int .i64 s, .int .i64 t, .slice A l.length c] 24 (0, 0))).trans_same hc); clear hc; have k0 := blk_cell HBK.out 0; have k1 := blk_cell HBK.out 1; have k2 := blk_cell HBK.out 2; have k3 := blk_cell HBK.out 3; simp only [List.getElem?_toArray, List.getElem?_cons_succ, List.getElem?_cons_zero] at k0 k1 k2 k3; have kb := blk_lt HBK.out)
    go_ret2
    exact ⟨rfl, HC.out⟩
  have HZ := Aside0.mk hz
  obtain ⟨hA, hl5, hall⟩ := chk_zero hz
  have HALL := Aside0.mk hall
  clear hz hall
  obtain ⟨hN0, hN1, hs, ht, hst⟩ := hA
  obtain ⟨hs0, hs1⟩ := inV_true.1 hs
  obtain ⟨ht0, ht1⟩ := inV_true.1 ht
  clear hs ht hst
  by_cases a1 : x.length = l.length
  rotate_left
  · have hval : val N s t l x = (0, 130) := by unfold val; rw [if_pos HZ.out, if_neg (fun h => a1 h.1)]
    rw [hval]
    clear hval
    have b1 : ((x.length : Int) != (l.length : Int)) = true := by simp; omega
    have b2 : (x.length != l.length) = true := by simpa using a1
    go_enter Try.func11, Try.ntmps11
    go_wp2_with (go_at_call 15; refine (check_calls N s t A c l _ (Kd.C_alloc HR.out _) HLL.out).mono ?_; rintro e w1 ⟨he, hc⟩; rw [HZ.out] at he; subst he; have HBK := Aside0.mk (hc.at (blk_new w (.cells #[.int .i64 N, .int .i64 s, .int .i64 t, .slice A l.length c] 24 (0, 0))) (by simp)); have HC := Aside0.mk (((Ch.refl [] w).alloc (.cells #[.int .i64 N, .int .i64 s, .int .i64 t, .slice A l.length c] 24 (0, 0))).trans_same hc); clear hc; have k0 := blk_cell HBK.out 0; have k1 := blk_cell HBK.out 1; have k2 := blk_cell HBK.out 2; have k3 := blk_cell HBK.out 3; simp only [List.getElem?_toArray, List.getElem?_cons_succ, List.getElem?_cons_zero] at k0 k1 k2 k3; have kb := blk_lt HBK.out)
    go_ret2
    exact ⟨rfl, HC.out⟩
  have b1 : ((x.length : Int) != (l.length : Int)) = false := by simp; omega
  have b2 : (x.length != l.length) = false := by simpa using a1
  have HXL := Aside0.mk a1
  have hval : val N s t l x = (if capsOk l x ∧ keepsOk N s t l x then (sur l x s, 0) else (0, 130)) := by
    unfold val; rw [if_pos HZ.out]
    by_cases hq : capsOk l x ∧ keepsOk N s t l x
    · rw [if_pos hq, if_pos ⟨a1, hq.1, hq.2⟩]
    · rw [if_neg hq, if_neg (fun h => hq h.2)]
  have HV := Aside0.mk hval
  generalize val N s t l x = vv at HV ⊢
  clear hval
  go_enter Try.func11, Try.ntmps11
  go_wp2_with (go_at_call 15; refine (check_calls N s t A c l _ (Kd.C_alloc HR.out _) HLL.out).mono ?_; rintro e w1 ⟨he, hc⟩; rw [HZ.out] at he; subst he; have HBK := Aside0.mk (hc.at (blk_new w (.cells #[.int .i64 N, .int .i64 s, .int .i64 t, .slice A l.length c] 24 (0, 0))) (by simp)); have HC := Aside0.mk (((Ch.refl [] w).alloc (.cells #[.int .i64 N, .int .i64 s, .int .i64 t, .slice A l.length c] 24 (0, 0))).trans_same hc); clear hc; have k0 := blk_cell HBK.out 0; have k1 := blk_cell HBK.out 1; have k2 := blk_cell HBK.out 2; have k3 := blk_cell HBK.out 3; simp only [List.getElem?_toArray, List.getElem?_cons_succ, List.getElem?_cons_zero] at k0 k1 k2 k3; have kb := blk_lt HBK.out)
  refine wp_abs (fun W2 => Ch [] w W2 ∧ W2.heap[w.heap.size]? = some (.cells #[.int .i64 N, .int .i64 s, .int .i64 t, .slice A l.length c] 24 (0, 0)) ∧ W2.heap[w1.heap.size]? = some (.cells (intsOf (List.replicate 64 0)) 49 (0, 0))) ⟨HC.out.alloc _, blk_alloc HBK.out _, blk_new _ _⟩ ?_
  have hob : w.heap.size ≤ w1.heap.size := HC.out.size
  obtain ⟨nb, hnb⟩ : ∃ nb, nb = w.heap.size := ⟨_, rfl⟩
  obtain ⟨ob, hob'⟩ : ∃ ob, ob = w1.heap.size := ⟨_, rfl⟩
  rw [← hnb, ← hob']
  have HNB := Aside0.mk hnb
  rw [← hob'] at hob
  have HOB := Aside0.mk hob
  clear HC HBK k0 k1 k2 k3 hob hob' hnb b1 b2 a1 kb w1
  intro W hW
  have HW := Aside0.mk hW
  clear hW
  go_loopw [26] (fun i wr => ∃ k : Nat, k ≤ l.length ∧ i = .int .i64 k ∧ Aside0 (Ch [] w wr ∧ wr.heap[nb]? = some (.cells #[.int .i64 N, .int .i64 s, .int .i64 t, .slice A l.length c] 24 (0, 0)) ∧ ∃ outs, Sums N l x k outs ∧ wr.heap[ob]? = some (.cells (intsOf outs) 49 (0, 0)))) (fun i wr => l.length - (intOf i).toNat)
  case atStart => exact ⟨0, by omega, rfl, ⟨⟨HW.out.1, HW.out.2.1, _, ⟨by simp, fun u u0 u1 => by show (List.replicate 64 (0 : Int)).getD u.toNat 0 = 0; rw [List.getD_eq_getElem?_getD, List.getElem?_replicate]; split <;> rfl, fun j hj => by omega⟩, HW.out.2.2⟩⟩⟩
  case round =>
    obtain ⟨k, hk, rfl, hrel⟩ := hrel
    clear HW
    obtain ⟨hch, hbk, outs, hsum, houts⟩ := hrel.out
    clear hrel
    by_cases hlt : k < l.length
    · obtain ⟨ad, rfl, c0, c1, c2⟩ := at_T43 (Kd.C_below HR.out hch.below) k (by omega) (by omega)
      simp only [Int.toNat_natCast] at c0 c1 c2
      have hok := HALL.out k hlt
      have hxl := HXL.out
      obtain ⟨ad1, rfl, q1⟩ := at_gi (Kd.C_below HR1.out hch.below) k (by omega) (by omega)
      simp only [Int.toNat_natCast] at q1
      have hqb := World.block_lt_of_cell? wr _ q1
      have HQW : Aside0 ((ad1.add k).block < w.heap.size) := by
        obtain ⟨_, e, q⟩ := at_gi HR1.out k (by omega) (by omega)
        cases e
        exact ⟨World.block_lt_of_cell? w _ q⟩
      have hxk : k < x.length := by omega
      have HSUM := Aside0.mk hsum
      have hx : ∃ y, rd_T43 l k = y := ⟨_, rfl⟩
      obtain ⟨y, hx⟩ := hx
      have HX := Aside0.mk hx
      rw [hx] at c0 c1 c2 hok
      obtain ⟨y0, y1, y2⟩ := y
      obtain ⟨i0, i1, hne, i2, i3⟩ := hok
      simp only at c0 c1 c2 i0 i1 i2 i3 hne
      obtain ⟨i00, i01⟩ := inV_true.1 i0
      obtain ⟨i10, i11⟩ := inV_true.1 i1
      have H := Aside0.mk (And.intro hch (And.intro hbk houts))
      clear hx i0 i1 hch hbk houts hsum hxl
      generalize hgx : gi x k = xk at q1
      have HGX := Aside0.mk hgx
      clear hgx
      by_cases e1 : xk < 0
      · have g1 : decide (xk < 0) = true := by simpa using e1
        have HE := Aside0.mk (show vv = (0, 130) by rw [HV.out, if_neg (fun h => by have := (h.1 k hlt).1; rw [HGX.out] at this; omega)])
        go_wp2
        go_quiet (fail)
        go_wp2
        go_ret2
        exact ⟨congrArg (fun p : Int × Int => Ending.returned (.tuple #[.int .i64 p.1, .int .i64 p.2])) HE.out.symm, (H.out.1.alloc _).drewN _⟩
      have g1 : decide (xk < 0) = false := by simpa using e1
      by_cases e2 : y2 < xk
      · have g2 : decide (y2 < xk) = true := by simpa using e2
        have HE := Aside0.mk (show vv = (0, 130) by rw [HV.out, if_neg (fun h => by have := (h.1 k hlt).2; rw [HGX.out, HX.out] at this; have this : xk ≤ y2 := this; omega)])
        go_wp2
        go_quiet (fail)
        go_wp2
        go_ret2
        exact ⟨congrArg (fun p : Int × Int => Ending.returned (.tuple #[.int .i64 p.1, .int .i64 p.2])) HE.out.symm, (H.out.1.alloc _).drewN _⟩
      have g2 : decide (y2 < xk) = false := by simpa using e2
      go_wp2
      go_quiet (fail)
      go_wp2
      have hck := ((((Ch.refl [] wr).alloc (.cells #[.int .i64 y0, .int .i64 y1, .int .i64 y2] 43)).drewN nq).cell hqb (by simp)).trans q1
      refine wp_abs (fun W2 => Ch [] w W2 ∧ W2.heap[nb]? = some (.cells #[.int .i64 N, .int .i64 s, .int .i64 t, .slice (some ad) l.length c] 24 (0, 0)) ∧ W2.heap[ob]? = some (.cells (intsOf outs) 49 (0, 0)) ∧ W2.heap[wr.heap.size]? = some (.cells #[.int .i64 y0, .int .i64 y1, .int .i64 y2] 43 (0, 0)) ∧ W2.cell? (ad1.add k) = some (.int .i64 xk) ∧ (ad1.add k).block < w.heap.size)
        ⟨(H.out.1.alloc _).drewN nq, blk_alloc H.out.2.1 _, blk_alloc H.out.2.2 _, blk_new _ _, hck, HQW.out⟩ ?_
      obtain ⟨ab, hab⟩ : ∃ ab, ab = wr.heap.size := ⟨_, rfl⟩
      rw [← hab]
      clear hck hab q1 c0 c1 c2 H hqb g1 g2 nq wr
      intro W2 ⟨hch, hbk, hout, harc, hq⟩
      obtain ⟨q1, q1w⟩ := hq
      have c0 := blk_cell harc 0
      have c1 := blk_cell harc 1
      simp only [List.getElem?_toArray, List.getElem?_cons_succ, List.getElem?_cons_zero] at c0 c1
      have ol := HSUM.out.len
      have o0 : W2.cell? ⟨ob, y0.toNat, none⟩ = some (.int .i64 (gi outs y0)) := (blk_cell hout _).trans (intsOf_get _ _ (by omega))
      have f0 := blk_free hout y0.toNat
      have hb0 : -(1073741824 * (k : Int)) ≤ gi outs y0 ∧ gi outs y0 ≤ 1073741824 * k := by
        rw [HSUM.out.at_ y0 i00 (by omega)]
        exact surK_bound k (fun j hj => ⟨(HSUM.out.caps j hj).1, by have := (HSUM.out.caps j hj).2; have := (HALL.out j (by omega)).2.2.2.2; omega⟩)
      have hb1 : -(1073741824 * (k : Int)) ≤ gi outs y1 ∧ gi outs y1 ≤ 1073741824 * k := by
        rw [HSUM.out.at_ y1 i10 (by omega)]
        exact surK_bound k (fun j hj => ⟨(HSUM.out.caps j hj).1, by have := (HSUM.out.caps j hj).2; have := (HALL.out j (by omega)).2.2.2.2; omega⟩)
      have H := Aside0.mk (And.intro hch (And.intro hbk (And.intro hout harc)))
      have HST := Aside0.mk (HSUM.out.step hN1 (HALL.out k hlt) (by rw [HGX.out, HX.out]; exact ⟨by omega, by show xk ≤ y2; omega⟩))
      rw [HX.out, HGX.out] at HST
      have e01 : gi (outs.set y0.toNat (gi outs y0 + xk)) y1 = gi outs y1 := gi_set_other i00 i10 hne
      simp only [e01] at HST
      clear hch hbk hout harc e01
      generalize gi outs y0 = v0 at o0 hb0 HST
      have o1v : ∃ v1, gi outs y1 = v1 := ⟨_, rfl⟩
      obtain ⟨v1, hv1⟩ := o1v
      rw [hv1] at hb1 HST
      have HV1 := Aside0.mk hv1
      clear hv1
      refine region_tail_plain_q 10 rfl (by kernel_rfl) ?_
      simp only [List.take_succ_cons, List.take_zero, List.drop_succ_cons, List.drop_zero]
      repeat (go_big_quiet_step (fail))
      refine wpQuiet_nil ?_
      go_wp2
      have hne1 : ab ≠ ob := blk_ne H.out.2.2.2 H.out.2.2.1 (by simp)
      have hne2 : nb ≠ ob := blk_ne H.out.2.1 H.out.2.2.1 (by simp)
      have hset := blk_set H.out.2.2.1 y0.toNat (.int .i64 (v0 + xk))
      rw [intsOf_set] at hset
      have hqc := ((Ch.refl [ob] W2).setCell ⟨ob, y0.toNat, none⟩ (.int .i64 (v0 + xk)) (.inl (by simp))).cell (Nat.lt_of_lt_of_le q1w H.out.1.size) (by have := HOB.out; simp; omega)
      refine wp_abs (fun W3 => Ch [] w W3 ∧ W3.heap[nb]? = some (.cells #[.int .i64 N, .int .i64 s, .int .i64 t, .slice (some ad) l.length c] 24 (0, 0)) ∧ W3.heap[ob]? = some (.cells (intsOf (outs.set y0.toNat (v0 + xk))) 49 (0, 0)) ∧ W3.heap[ab]? = some (.cells #[.int .i64 y0, .int .i64 y1, .int .i64 y2] 43 (0, 0)) ∧ W3.cell? (ad1.add k) = some (.int .i64 xk))
        ⟨H.out.1.drew.setCell _ _ (.inr HOB.out), blk_other (show W2.drew.heap[nb]? = _ from H.out.2.1) _ _ hne2, hset, blk_other (show W2.drew.heap[ab]? = _ from H.out.2.2.2) _ _ hne1, hqc.trans q1⟩ ?_
      clear hset hqc H c0 c1 o0 f0 q1 W2
      intro W2 ⟨hch, hbk, hout, harc, q1⟩
      have c1 := blk_cell harc 1
      simp only [List.getElem?_toArray, List.getElem?_cons_succ, List.getElem?_cons_zero] at c1
      have o1 : W2.cell? ⟨ob, y1.toNat, none⟩ = some (.int .i64 v1) := by
        rw [← HV1.out, ← gi_set_other (m := outs) (x := v0 + xk) i00 i10 hne]
        exact (blk_cell hout _).trans (intsOf_get _ _ (by simp; omega))
      have f1 := blk_free hout y1.toNat
      have H := Aside0.mk (And.intro hch (And.intro hbk (And.intro hout harc)))
      clear hch hbk hout harc
      refine region_tail_plain_q 10 rfl (by kernel_rfl) ?_
      simp only [List.take_succ_cons, List.take_zero, List.drop_succ_cons, List.drop_zero]
      repeat (go_big_quiet_step (fail))
      refine wpQuiet_nil ?_
      go_wp2
      go_roundw
      case rel =>
        have hset := blk_set H.out.2.2.1 y1.toNat (.int .i64 (v1 - xk))
        rw [intsOf_set] at hset
        exact ⟨k + 1, by omega, by go_num, ⟨⟨H.out.1.drew.setCell _ _ (.inr HOB.out), blk_other (show W2.drew.heap[nb]? = _ from H.out.2.1) _ _ hne2, _, HST.out, hset⟩⟩⟩
      case measure => simp [intOf]; omega
    · have hke : k = l.length := by omega
      have hcaps : capsOk l x := fun j hj => hsum.caps j (by omega)
      have hat : ∀ u : Int, 0 ≤ u → u < 64 → gi outs u = sur l x u := fun u u0 u1 => by rw [hsum.at_ u u0 u1, hke]; rfl
      have HCA := Aside0.mk (And.intro hcaps (And.intro hat hsum.len))
      have H := Aside0.mk (And.intro hch (And.intro hbk houts))
      have cN := blk_cell hbk 0
      simp only [List.getElem?_toArray, List.getElem?_cons_succ, List.getElem?_cons_zero] at cN
      have hobl := blk_lt houts
      clear hke hcaps hat hch hbk houts hsum
      obtain ⟨n, hn⟩ : ∃ n : Nat, N = n := ⟨N.toNat, by omega⟩
      subst hn
      go_wp2
      go_loopw [70] (fun i W => ∃ u : Nat, u ≤ n ∧ i = .int .i64 u ∧ W = wr ∧ Aside0 (∀ v : Nat, v < u → (v : Int) ≠ s → (v : Int) ≠ t → sur l x v = 0)) (fun i W => n - (intOf i).toNat)
      case atStart => exact ⟨0, by omega, rfl, rfl, ⟨fun v hv => by omega⟩⟩
      case round =>
        obtain ⟨u, hu, rfl, rfl, hkp⟩ := hrel
        clear cN
        by_cases hun : u < n
        · have ou : wr.cell? ⟨ob, u, none⟩ = some (.int .i64 (sur l x u)) := by
            have h1 := (blk_cell H.out.2.2 u).trans (intsOf_get outs u (by have := HCA.out.2.2; omega))
            have h2 := HCA.out.2.1 u (by omega) (by omega)
            rw [h1, ← h2]; rfl
          have cs := blk_cell H.out.2.1 1
          have ct := blk_cell H.out.2.1 2
          simp only [List.getElem?_toArray, List.getElem?_cons_succ, List.getElem?_cons_zero] at cs ct
          generalize hy : sur l x u = y at ou
          have HY := Aside0.mk hy
          clear hy
          by_cases e1 : y = 0
          · subst e1
            go_wp2
            go_roundw
            case rel => exact ⟨u + 1, by omega, by go_num, trivial, ⟨fun v hv h1 h2 => by
              by_cases e : v = u
              · subst e; exact HY.out
              · exact hkp.out v (by omega) h1 h2⟩⟩
            case measure => simp [intOf]; omega
          have g1 : (y != 0) = true := by simpa using e1
          by_cases e2 : (u : Int) = s
          · have g2 : ((u : Int) != s) = false := by simpa using e2
            have E2 := Aside0.mk e2
            clear e2
            go_wp2
            go_roundw
            case rel => exact ⟨u + 1, by omega, by go_num, trivial, ⟨fun v hv h1 h2 => by
              by_cases e : v = u
              · subst e; exact absurd E2.out h1
              · exact hkp.out v (by omega) h1 h2⟩⟩
            case measure => simp [intOf]; omega
          have g2 : ((u : Int) != s) = true := by simpa using e2
          by_cases e3 : (u : Int) = t
          · have g3 : ((u : Int) != t) = false := by simpa using e3
            have E3 := Aside0.mk e3
            clear e3
            go_wp2
            go_roundw
            case rel => exact ⟨u + 1, by omega, by go_num, trivial, ⟨fun v hv h1 h2 => by
              by_cases e : v = u
              · subst e; exact absurd E3.out h2
              · exact hkp.out v (by omega) h1 h2⟩⟩
            case measure => simp [intOf]; omega
          have g3 : ((u : Int) != t) = true := by simpa using e3
          have HE := Aside0.mk (show vv = (0, 130) by rw [HV.out, if_neg (fun h => e1 (by rw [← HY.out]; exact h.2 u (by omega) e2 e3))])
          go_wp2
          go_ret2
          exact ⟨congrArg (fun p : Int × Int => Ending.returned (.tuple #[.int .i64 p.1, .int .i64 p.2])) HE.out.symm, H.out.1⟩
        · have hke : u = n := by omega
          have os : wr.cell? ⟨ob, s.toNat, none⟩ = some (.int .i64 (sur l x s)) := by
            have h1 := (blk_cell H.out.2.2 s.toNat).trans (intsOf_get outs s.toNat (by have := HCA.out.2.2; omega))
            have h2 := HCA.out.2.1 s hs0 (by omega)
            rw [h1, ← h2]; rfl
          have cs := blk_cell H.out.2.1 1
          simp only [List.getElem?_toArray, List.getElem?_cons_succ, List.getElem?_cons_zero] at cs
          have HE := Aside0.mk (show vv = (sur l x s, 0) by
            rw [HV.out, if_pos ⟨HCA.out.1, fun v hv h1 h2 => hkp.out v (by omega) h1 h2⟩])
          generalize sur l x s = y at os HE
          clear hke
          go_wp2
          go_ret2
          exact ⟨congrArg (fun p : Int × Int => Ending.returned (.tuple #[.int .i64 p.1, .int .i64 p.2])) HE.out.symm, H.out.1⟩
end Go.Proofs.Ytipfpckjgfjehaa

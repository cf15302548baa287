/-
  The reference's augmenting paths: the vertices that are reached, a path to the sink, what a round does, and where the rounds end. No program in sight.
-/
import Derived.Test.YtipfpckjgfjehaaP9
namespace Go.Proofs.Ytipfpckjgfjehaa
set_option linter.unusedVariables false
set_option linter.unusedSimpArgs false
open PFlowMaxSpec

/-! ### 1. The way by which a vertex is reached: 1 and the index of an arc, less than 0 if it is taken back -/
def bIdx (e : Int) : Int := if 0 < e then e - 1 else -e - 1
def bPred (l : List S43) (e : Int) : Int := if 0 < e then (rd_T43 l (e - 1)).f0 else (rd_T43 l (-e - 1)).f1
def bHead (l : List S43) (e : Int) : Int := if 0 < e then (rd_T43 l (e - 1)).f1 else (rd_T43 l (-e - 1)).f0
def bRoom (l : List S43) (x : List Int) (e : Int) : Int := if 0 < e then (rd_T43 l (e - 1)).f2 - gi x (e - 1) else gi x (-e - 1)
structure BOk (l : List S43) (x : List Int) (e v : Int) : Prop where
  i0 : 0 ≤ bIdx e
  i1 : bIdx e < l.length
  head : bHead l e = v
  room : 0 < bRoom l x e

structure TreeB (N s : Int) (l : List S43) (x by_ : List Int) (side : List Bool) (rk : Int → Nat) : Prop where
  lb : (by_.length : Int) = N
  ls : (side.length : Int) = N
  src : gb side s = true
  link : ∀ v : Int, 0 ≤ v → v < N → gb side v = true → v ≠ s → BOk l x (gi by_ v) v ∧ gb side (bPred l (gi by_ v)) = true ∧ rk (bPred l (gi by_ v)) < rk v
def closedAt (l : List S43) (x : List Int) (side : List Bool) (v : Int) (k : Nat) : Prop :=
  ((rd_T43 l k).f0 = v → gi x k < (rd_T43 l k).f2 → gb side (rd_T43 l k).f1 = true) ∧ ((rd_T43 l k).f1 = v → 0 < gi x k → gb side (rd_T43 l k).f0 = true)
def Closed (N : Int) (l : List S43) (x : List Int) (side : List Bool) : Prop := ∀ v : Int, 0 ≤ v → v < N → gb side v = true → ∀ k : Nat, k < l.length → closedAt l x side v k

section
variable {N s t : Int} {l : List S43} {x by_ out : List Int} {side : List Bool} {rk : Int → Nat} {m v : Int}

theorem bPred_range (hn : NetOk N s t l) {e : Int} (h : BOk l x e v) : 0 ≤ bPred l e ∧ bPred l e < N := by
  have h0 := h.i0
  have h1 := h.i1
  unfold bIdx at h0 h1
  unfold bPred
  split
  · rename_i he
    rw [if_pos he] at h0 h1
    have ha := hn.arcs (e - 1).toNat (by omega)
    rw [show (((e - 1).toNat : Nat) : Int) = e - 1 by omega] at ha
    exact inV_true.1 ha.1
  · rename_i he
    rw [if_neg he] at h0 h1
    have ha := hn.arcs (-e - 1).toNat (by omega)
    rw [show (((-e - 1).toNat : Nat) : Int) = -e - 1 by omega] at ha
    exact inV_true.1 ha.2.1

/-- Where the sink is not reached, the flow is a greatest one, and the side the least. -/
theorem TreeB.final (hn : NetOk N s t l) (hf : flowOk N s t l x) (hT : TreeB N s l x by_ side rk) (hC : Closed N l x side) (ht : gb side t = false) : MaxRes N s t l x side := by
  have hsd : sideOk N s t side := ⟨hT.ls, hT.src, ht⟩
  refine ⟨hf, hsd, ?_, fun side' hs' hc' => ?_⟩
  · rw [flow_side hn hf.2.2 hT.src ht, cutOf_eq]
    refine sumR_congr fun k hk => ?_
    obtain ⟨c0, c1⟩ := hf.2.1 k hk
    obtain ⟨a0, a1, _⟩ := hn.arcs k hk
    obtain ⟨a00, a01⟩ := inV_true.1 a0
    obtain ⟨a10, a11⟩ := inV_true.1 a1
    unfold bi cutTerm
    cases g0 : gb side (rd_T43 l k).f0 <;> cases g1 : gb side (rd_T43 l k).f1
    · simp
    · have := (hC _ a10 a11 g1 k hk).2 rfl
      have hz : gi x k = 0 := by
        rcases Int.lt_or_le 0 (gi x k) with h | h
        · have := this h; rw [g0] at this; cases this
        · omega
      rw [hz]; simp
    · have := (hC _ a00 a01 g0 k hk).1 rfl
      have hz : gi x k = (rd_T43 l k).f2 := by
        rcases Int.lt_or_le (gi x k) (rd_T43 l k).f2 with h | h
        · have := this h; rw [g1] at this; cases this
        · omega
      rw [hz]; simp
    · simp
  · have htight := fun k hk => tight (k := k) hn hf hs' hc' hk
    have key : ∀ (d : Nat) (v : Int), rk v ≤ d → 0 ≤ v → v < N → gb side v = true → gb side' v = true := by
      intro d
      induction d with
      | zero =>
        intro v hd v0 v1 hv
        by_cases e : v = s
        · rw [e]; exact hs'.2.1
        · have := (hT.link v v0 v1 hv e).2.2; omega
      | succ d ih =>
        intro v hd v0 v1 hv
        by_cases e : v = s
        · rw [e]; exact hs'.2.1
        · obtain ⟨hb, hp, hr⟩ := hT.link v v0 v1 hv e
          obtain ⟨p0, p1⟩ := bPred_range hn hb
          have hpu := ih _ (by omega) p0 p1 hp
          obtain ⟨i0, i1, hh, hroom⟩ := hb
          generalize gi by_ v = ee at hp hr p0 p1 hpu i0 i1 hh hroom
          unfold bIdx at i0 i1
          unfold bPred at hpu
          unfold bHead at hh
          unfold bRoom at hroom
          by_cases he : 0 < ee
          · rw [if_pos he] at i0 i1 hpu hh hroom
            have hk := htight (ee - 1).toNat (by omega)
            rw [show (((ee - 1).toNat : Nat) : Int) = ee - 1 by omega] at hk
            unfold bi cutTerm at hk
            rw [show (((ee - 1).toNat : Nat) : Int) = ee - 1 by omega, hh, hpu] at hk
            cases g : gb side' v
            · rw [g] at hk; simp at hk; omega
            · rfl
          · rw [if_neg he] at i0 i1 hpu hh hroom
            have hk := htight (-ee - 1).toNat (by omega)
            rw [show (((-ee - 1).toNat : Nat) : Int) = -ee - 1 by omega] at hk
            unfold bi cutTerm at hk
            rw [show (((-ee - 1).toNat : Nat) : Int) = -ee - 1 by omega, hh, hpu] at hk
            cases g : gb side' v
            · rw [g] at hk; simp at hk; omega
            · rfl
    exact fun v v0 v1 hv => key (rk v) v (Nat.le_refl _) v0 v1 hv

/-! ### 2. A path, and what is sent along it -/
theorem sur_set {k : Nat} (hk : k < l.length) (hx : out.length = l.length) (y u : Int) : sur l (out.set k y) u = sur l out u + (y - gi out k) * (ind (rd_T43 l k).f0 u - ind (rd_T43 l k).f1 u) := by
  unfold sur surK
  rw [sumR_upd (k := k) (g := fun j : Nat => gi out j * (ind (rd_T43 l j).f0 u - ind (rd_T43 l j).f1 u)) hk (fun j hj hne => by
    have := gi_set_ne (m := out) (i := (k : Int)) (j := (j : Int)) (x := y) (by omega)
    rw [Int.toNat_natCast] at this
    rw [this])]
  have h := gi_set_same (m := out) (i := (k : Int)) (x := y) (by omega) (by omega)
  rw [Int.toNat_natCast] at h
  rw [h, ← Int.sub_mul]

structure SI (N s t : Int) (l : List S43) (x by_ : List Int) (side : List Bool) (rk : Int → Nat) (m v : Int) (out : List Int) : Prop where
  len : out.length = l.length
  v0 : 0 ≤ v
  v1 : v < N
  reach : gb side v = true
  caps : capsOk l out
  net : ∀ u, sur l out u = sur l x u + m * (ind v u - ind t u)
  same : ∀ w : Int, 0 ≤ w → w < N → gb side w = true → w ≠ s → rk w ≤ rk v → gi out (bIdx (gi by_ w)) = gi x (bIdx (gi by_ w))

theorem SI.start (hn : NetOk N s t l) (hf : flowOk N s t l x) (ht : gb side t = true) : SI N s t l x by_ side rk m t x := by
  obtain ⟨t0, t1⟩ := inV_true.1 hn.arg.2.2.2.1
  exact ⟨hf.1, t0, t1, ht, hf.2.1, fun u => by rw [Int.sub_self, Int.mul_zero, Int.add_zero], fun _ _ _ _ _ _ => rfl⟩

/-- The change at one arc. -/
def bSet (out : List Int) (e m : Int) : List Int := if 0 < e then out.set (e - 1).toNat (gi out (e - 1) + m) else out.set (-e - 1).toNat (gi out (-e - 1) - m)

theorem SI.step (hn : NetOk N s t l) (hf : flowOk N s t l x) (hT : TreeB N s l x by_ side rk) (h : SI N s t l x by_ side rk m v out) (hv : v ≠ s) (hm0 : 0 ≤ m) (hm : m ≤ bRoom l x (gi by_ v)) :
    SI N s t l x by_ side rk m (bPred l (gi by_ v)) (bSet out (gi by_ v) m) := by
  obtain ⟨hb, hp, hr⟩ := hT.link v h.v0 h.v1 h.reach hv
  obtain ⟨p0, p1⟩ := bPred_range hn hb
  have hsame := h.same v h.v0 h.v1 h.reach hv (Nat.le_refl _)
  have hS := h.same
  have hlen := h.len
  -- the arc of another way that is not yet gone is another one
  have other : ∀ w : Int, 0 ≤ w → w < N → gb side w = true → w ≠ s → rk w ≤ rk (bPred l (gi by_ v)) → bIdx (gi by_ w) ≠ bIdx (gi by_ v) := by
    intro w w0 w1 hw hws hrk e
    obtain ⟨hbw, hpw, hrw⟩ := hT.link w w0 w1 hw hws
    obtain ⟨_, _, hhw, _⟩ := hbw
    have hh := hb.head
    have i0 := hb.i0
    generalize gi by_ w = ew at e hpw hrw hhw
    generalize gi by_ v = ev at e hr hrk hh i0
    unfold bIdx at e i0
    unfold bHead at hhw hh
    unfold bPred at hrw hr hrk
    by_cases a : 0 < ew <;> by_cases b : 0 < ev
    · rw [if_pos a, if_pos b] at e
      rw [if_pos a] at hhw
      rw [if_pos b] at hh
      rw [e, hh] at hhw
      subst hhw
      omega
    · rw [if_pos a, if_neg b] at e
      rw [if_pos a] at hhw hrw
      rw [if_neg b] at hh hr hrk
      rw [e] at hhw hrw
      rw [hh] at hrw
      rw [hhw] at hrk hr
      omega
    · rw [if_neg a, if_pos b] at e
      rw [if_neg a] at hhw hrw
      rw [if_pos b] at hh hr hrk
      rw [e] at hhw hrw
      rw [hh] at hrw
      rw [hhw] at hrk hr
      omega
    · rw [if_neg a, if_neg b] at e
      rw [if_neg a] at hhw
      rw [if_neg b] at hh
      rw [e, hh] at hhw
      subst hhw
      omega
  have i0 := hb.i0
  have i1 := hb.i1
  have hh := hb.head
  generalize gi by_ v = ev at *
  by_cases he : 0 < ev
  · obtain ⟨k, hk⟩ : ∃ k : Nat, ev - 1 = (k : Int) := ⟨(ev - 1).toNat, by unfold bIdx at i0; rw [if_pos he] at i0; omega⟩
    have e1 : bIdx ev = k := by unfold bIdx; rw [if_pos he, hk]
    have e2 : bPred l ev = (rd_T43 l k).f0 := by unfold bPred; rw [if_pos he, hk]
    have e3 : bHead l ev = (rd_T43 l k).f1 := by unfold bHead; rw [if_pos he, hk]
    have e4 : bRoom l x ev = (rd_T43 l k).f2 - gi x k := by unfold bRoom; rw [if_pos he, hk]
    have e5 : bSet out ev m = out.set k (gi out k + m) := by unfold bSet; rw [if_pos he, hk, Int.toNat_natCast]
    rw [e1] at i0 i1 hsame
    rw [e3] at hh
    rw [e4] at hm
    rw [e5, e2]
    rw [e2] at p0 p1 hp hr
    have hc := h.caps k (by omega)
    refine ⟨by rw [List.length_set]; exact hlen, p0, p1, hp, fun j hj => ?_, fun u => ?_, fun w w0 w1 hw hws hrk => ?_⟩
    · by_cases hjk : j = k
      · subst hjk
        have := gi_set_same (m := out) (i := (j : Int)) (x := gi out j + m) (by omega) (by omega)
        rw [Int.toNat_natCast] at this
        rw [this]
        omega
      · have := gi_set_ne (m := out) (i := (k : Int)) (j := (j : Int)) (x := gi out k + m) (by omega)
        rw [Int.toNat_natCast] at this
        rw [this]
        exact h.caps j hj
    · rw [sur_set (by omega) hlen, h.net u, hh]
      rw [show gi out k + m - gi out k = m by omega, Int.add_assoc, ← Int.mul_add]
      congr 2
      omega
    · have hne := other w w0 w1 hw hws (by rw [e2]; exact hrk)
      obtain ⟨hbw, _, _⟩ := hT.link w w0 w1 hw hws
      have w0' := hbw.i0
      rw [e1] at hne
      have := gi_set_ne (m := out) (i := (k : Int)) (j := bIdx (gi by_ w)) (x := gi out k + m) (by omega)
      rw [Int.toNat_natCast] at this
      rw [this]
      exact hS w w0 w1 hw hws (by omega)
  · obtain ⟨k, hk⟩ : ∃ k : Nat, -ev - 1 = (k : Int) := ⟨(-ev - 1).toNat, by unfold bIdx at i0; rw [if_neg he] at i0; omega⟩
    have e1 : bIdx ev = k := by unfold bIdx; rw [if_neg he, hk]
    have e2 : bPred l ev = (rd_T43 l k).f1 := by unfold bPred; rw [if_neg he, hk]
    have e3 : bHead l ev = (rd_T43 l k).f0 := by unfold bHead; rw [if_neg he, hk]
    have e4 : bRoom l x ev = gi x k := by unfold bRoom; rw [if_neg he, hk]
    have e5 : bSet out ev m = out.set k (gi out k - m) := by unfold bSet; rw [if_neg he, hk, Int.toNat_natCast]
    rw [e1] at i0 i1 hsame
    rw [e3] at hh
    rw [e4] at hm
    rw [e5, e2]
    rw [e2] at p0 p1 hp hr
    have hc := h.caps k (by omega)
    refine ⟨by rw [List.length_set]; exact hlen, p0, p1, hp, fun j hj => ?_, fun u => ?_, fun w w0 w1 hw hws hrk => ?_⟩
    · by_cases hjk : j = k
      · subst hjk
        have := gi_set_same (m := out) (i := (j : Int)) (x := gi out j - m) (by omega) (by omega)
        rw [Int.toNat_natCast] at this
        rw [this]
        omega
      · have := gi_set_ne (m := out) (i := (k : Int)) (j := (j : Int)) (x := gi out k - m) (by omega)
        rw [Int.toNat_natCast] at this
        rw [this]
        exact h.caps j hj
    · rw [sur_set (by omega) hlen, h.net u, hh]
      rw [show gi out k - m - gi out k = -m by omega, Int.neg_mul, ← Int.mul_neg, Int.add_assoc, ← Int.mul_add]
      congr 2
      omega
    · have hne := other w w0 w1 hw hws (by rw [e2]; exact hrk)
      obtain ⟨hbw, _, _⟩ := hT.link w w0 w1 hw hws
      have w0' := hbw.i0
      rw [e1] at hne
      have := gi_set_ne (m := out) (i := (k : Int)) (j := bIdx (gi by_ w)) (x := gi out k - m) (by omega)
      rw [Int.toNat_natCast] at this
      rw [this]
      exact hS w w0 w1 hw hws (by omega)

theorem SI.done (hn : NetOk N s t l) (hf : flowOk N s t l x) (h : SI N s t l x by_ side rk m s out) : flowOk N s t l out ∧ sur l out s = sur l x s + m := by
  have hst := hn.arg.2.2.2.2
  refine ⟨⟨h.len, h.caps, fun u hu hs ht => ?_⟩, ?_⟩
  · rw [h.net, ind_ne (Ne.symm hs), ind_ne (Ne.symm ht), hf.2.2 u hu hs ht]; omega
  · rw [h.net, ind_self, ind_ne (Ne.symm hst)]; omega

theorem flow_bound (hn : NetOk N s t l) (hf : flowOk N s t l x) : -549755813888 ≤ sur l x s ∧ sur l x s ≤ 549755813888 := by
  have h1 := surK_bound (l := l) (x := x) (u := s) l.length (fun k hk => by
    obtain ⟨a, b⟩ := hf.2.1 k hk
    have := (hn.arcs k hk).2.2.2.2
    exact ⟨a, by omega⟩)
  have := hn.len
  unfold sur
  omega

/-- The vertices of the way back from the sink. -/
def wayB (l : List S43) (by_ : List Int) (t : Int) : Nat → Int
  | 0 => t
  | n + 1 => bPred l (gi by_ (wayB l by_ t n))

/-! ### 3. The vertices that are reached -/
structure Grow (N s : Int) (l : List S43) (x by_ : List Int) (side : List Bool) (q : List Int) : Prop where
  lb : (by_.length : Int) = N
  ls : (side.length : Int) = N
  mem : ∀ v : Int, 0 ≤ v → v < N → (gb side v = true ↔ v ∈ q)
  rng : ∀ v ∈ q, 0 ≤ v ∧ v < N
  src : s ∈ q
  link : ∀ v ∈ q, v ≠ s → BOk l x (gi by_ v) v ∧ bPred l (gi by_ v) ∈ q ∧ q.idxOf (bPred l (gi by_ v)) < q.idxOf v
  cnt : side.count true = q.length

theorem gb_put_same {side : List Bool} {w : Int} (h0 : 0 ≤ w) (h1 : w < side.length) (b : Bool) : gb (side.set w.toNat b) w = b := by
  unfold gb
  rw [List.getD_eq_getElem?_getD, List.getElem?_set_self (by omega)]; rfl
theorem gb_put_other {side : List Bool} {w v : Int} (h : w.toNat ≠ v.toNat) (b : Bool) : gb (side.set w.toNat b) v = gb side v := by
  unfold gb
  rw [List.getD_eq_getElem?_getD, List.getElem?_set_ne h, ← List.getD_eq_getElem?_getD]

theorem Grow.add {q : List Int} (h : Grow N s l x by_ side q) {w e : Int} (w0 : 0 ≤ w) (w1 : w < N) (hw : gb side w = false) (hb : BOk l x e w) (hp : bPred l e ∈ q) :
    Grow N s l x (by_.set w.toNat e) (side.set w.toNat true) (q ++ [w]) := by
  have hlb := h.lb
  have hls := h.ls
  have hnot : w ∉ q := fun hin => by have := (h.mem w w0 w1).2 hin; rw [hw] at this; cases this
  have hidx : ∀ u ∈ q, (q ++ [w]).idxOf u = q.idxOf u := fun u hu => by rw [List.idxOf_append, if_pos hu]
  refine ⟨by rw [List.length_set]; exact hlb, by rw [List.length_set]; exact hls, fun v v0 v1 => ?_, fun v hv => ?_, List.mem_append.2 (.inl h.src), fun v hv hvs => ?_, ?_⟩
  · by_cases hvw : v = w
    · subst hvw
      rw [gb_put_same v0 (by omega)]
      simp
    · rw [gb_put_other (by omega), h.mem v v0 v1]
      simp [hvw]
  · rcases List.mem_append.1 hv with h' | h'
    · exact h.rng v h'
    · simp at h'; subst h'; exact ⟨w0, w1⟩
  · rcases List.mem_append.1 hv with h' | h'
    · have hvw : v ≠ w := fun e => hnot (e ▸ h')
      obtain ⟨v0, v1⟩ := h.rng v h'
      rw [gi_set_ne (by omega)]
      obtain ⟨a, b, c⟩ := h.link v h' hvs
      exact ⟨a, List.mem_append.2 (.inl b), by rw [hidx _ b, hidx _ h']; exact c⟩
    · simp at h'
      subst h'
      rw [gi_set_same w0 (by omega)]
      refine ⟨hb, List.mem_append.2 (.inl hp), ?_⟩
      rw [hidx _ hp, List.idxOf_append, if_neg hnot]
      have := List.idxOf_lt_length_of_mem hp
      omega
  · rw [List.count_set (by omega), List.length_append, h.cnt]
    have hg : side[w.toNat]'(by omega) = false := by
      unfold gb at hw
      rw [List.getD_eq_getElem?_getD, List.getElem?_eq_getElem (by omega)] at hw
      exact hw
    rw [hg]
    simp

theorem Grow.size {q : List Int} (h : Grow N s l x by_ side q) : (q.length : Int) ≤ N := by
  have := List.count_le_length (a := true) (l := side)
  have := h.cnt
  have := h.ls
  omega
theorem Grow.tree {q : List Int} (h : Grow N s l x by_ side q) (hs : 0 ≤ s ∧ s < N) : TreeB N s l x by_ side (fun v => q.idxOf v) :=
  ⟨h.lb, h.ls, (h.mem s hs.1 hs.2).2 h.src, fun v v0 v1 hv hvs => by
    obtain ⟨a, b, c⟩ := h.link v ((h.mem v v0 v1).1 hv) hvs
    obtain ⟨p0, p1⟩ := h.rng _ b
    exact ⟨a, (h.mem _ p0 p1).2 b, c⟩⟩
end
end Go.Proofs.Ytipfpckjgfjehaa

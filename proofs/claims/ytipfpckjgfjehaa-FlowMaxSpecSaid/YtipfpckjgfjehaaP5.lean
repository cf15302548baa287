/-
  The plain side of flow.Max: greatest flows and least cuts. No program in sight.
-/
import Derived.Test.YtipfpckjgfjehaaP4
import Derived.Test.YtipfpckjgfjehaaF7
namespace Go.Proofs.Ytipfpckjgfjehaa
set_option linter.unusedVariables false
set_option linter.unusedSimpArgs false
open PFlowMaxSpec

/-- A network that is one. -/
structure NetOk (N s t : Int) (l : List S43) : Prop where
  arg : argOk N s t
  len : l.length ≤ 512
  arcs : ∀ k : Nat, k < l.length → arcOk N (rd_T43 l k)
theorem NetOk.of {N s t : Int} {l : List S43} (h : chk N s t l = 0) : NetOk N s t l := ⟨(chk_zero h).1, (chk_zero h).2.1, (chk_zero h).2.2⟩

def bi (side : List Bool) (v : Int) : Int := if gb side v = true then 1 else 0
theorem sumR_ind {n : Nat} {f : Nat → Int} {a : Int} (h0 : 0 ≤ a) (h1 : a < n) : sumR n (fun v => f v * ind a v) = f a.toNat := by
  rw [sumR_upd (g := fun _ => 0) (k := a.toNat) (by omega) (fun j hj hne => by rw [ind_ne (by omega)]; omega), sumR_zero (fun _ _ => rfl)]
  rw [show ((a.toNat : Nat) : Int) = a by omega, ind_self]
  omega

section
variable {N s t : Int} {l : List S43}
theorem NetOk.head (h : NetOk N s t l) (i : Int) (h0 : 0 ≤ i) (h1 : i < 2 * l.length) : 0 ≤ toV l i ∧ toV l i < N := by
  obtain ⟨k, hk⟩ : ∃ k : Nat, (k : Int) = i / 2 := ⟨(i / 2).toNat, by omega⟩
  have ha := h.arcs k (by omega)
  unfold toV
  rw [← hk]
  split
  · exact inV_true.1 ha.2.1
  · exact inV_true.1 ha.1

/-- What leaves a side, less what enters it. -/
theorem side_sum (h : NetOk N s t l) (x : List Int) (side : List Bool) : sumR N.toNat (fun v => bi side v * sur l x v) = sumR l.length (fun k => gi x k * (bi side (rd_T43 l k).f0 - bi side (rd_T43 l k).f1)) := by
  have hN := h.arg.1
  have e1 : ∀ v : Nat, bi side v * sur l x v = sumR l.length (fun k => bi side v * (gi x k * (ind (rd_T43 l k).f0 v - ind (rd_T43 l k).f1 v))) := fun v => by unfold sur surK; exact sumR_mul.symm
  rw [sumR_congr (fun v _ => e1 v), sumR_swap]
  refine sumR_congr fun k hk => ?_
  obtain ⟨h0, h1, _⟩ := h.arcs k hk
  have a0 := inV_true.1 h0
  have a1 := inV_true.1 h1
  have e2 : ∀ v : Nat, bi side v * (gi x k * (ind (rd_T43 l k).f0 v - ind (rd_T43 l k).f1 v)) = gi x k * (bi side v * ind (rd_T43 l k).f0 v) - gi x k * (bi side v * ind (rd_T43 l k).f1 v) := fun v => by
    rw [← Int.mul_sub, ← Int.mul_sub, Int.mul_left_comm]
  rw [sumR_congr (fun v _ => e2 v), sumR_sub, sumR_mul, sumR_mul, sumR_ind (f := fun v => bi side v) a0.1 (by omega), sumR_ind (f := fun v => bi side v) a1.1 (by omega), ← Int.mul_sub]
  rw [show (((rd_T43 l k).f0.toNat : Nat) : Int) = (rd_T43 l k).f0 by omega, show (((rd_T43 l k).f1.toNat : Nat) : Int) = (rd_T43 l k).f1 by omega]

theorem flow_side (h : NetOk N s t l) {x : List Int} {side : List Bool} (hk : keepsOk N s t l x) (hs : gb side s = true) (ht : gb side t = false) :
    sur l x s = sumR l.length (fun k => gi x k * (bi side (rd_T43 l k).f0 - bi side (rd_T43 l k).f1)) := by
  rw [← side_sum h x side]
  obtain ⟨s0, s1⟩ := inV_true.1 h.arg.2.2.1
  rw [sumR_upd (g := fun _ => 0) (k := s.toNat) (by omega) (fun j hj hne => ?_), sumR_zero (fun _ _ => rfl)]
  · rw [show ((s.toNat : Nat) : Int) = s by omega, show bi side s = 1 by unfold bi; rw [if_pos hs]]
    omega
  · show bi side j * sur l x j = 0
    by_cases e : (j : Int) = t
    · rw [e, show bi side t = 0 by unfold bi; rw [ht]; rfl]; omega
    · rw [hk j hj (by omega) e]; omega

def cutTerm (l : List S43) (side : List Bool) (k : Nat) : Int := if gb side (rd_T43 l k).f0 = true ∧ gb side (rd_T43 l k).f1 = false then (rd_T43 l k).f2 else 0
theorem cutOf_eq (l : List S43) (side : List Bool) : cutOf l side = sumR l.length (cutTerm l side) := rfl
theorem flow_term {x : List Int} {side : List Bool} (hc : capsOk l x) {k : Nat} (hk : k < l.length) : gi x k * (bi side (rd_T43 l k).f0 - bi side (rd_T43 l k).f1) ≤ cutTerm l side k := by
  obtain ⟨c0, c1⟩ := hc k hk
  unfold bi cutTerm
  cases gb side (rd_T43 l k).f0 <;> cases gb side (rd_T43 l k).f1 <;> simp <;> omega
/-- No flow has a greater value than a side's cut. -/
theorem weak (h : NetOk N s t l) {x : List Int} {side : List Bool} (hf : flowOk N s t l x) (hs : sideOk N s t side) : sur l x s ≤ cutOf l side := by
  rw [flow_side h hf.2.2 hs.2.1 hs.2.2, cutOf_eq]
  exact sumR_le (fun k hk => flow_term hf.2.1 hk)
theorem tight (h : NetOk N s t l) {x : List Int} {side : List Bool} (hf : flowOk N s t l x) (hs : sideOk N s t side) (he : cutOf l side ≤ sur l x s) {k : Nat} (hk : k < l.length) :
    gi x k * (bi side (rd_T43 l k).f0 - bi side (rd_T43 l k).f1) = cutTerm l side k := by
  rw [flow_side h hf.2.2 hs.2.1 hs.2.2, cutOf_eq] at he
  exact sumR_tight (fun k hk => flow_term hf.2.1 hk) he k hk

/-- A greatest flow, and the least side that proves it. -/
structure MaxRes (N s t : Int) (l : List S43) (x : List Int) (side : List Bool) : Prop where
  flow : flowOk N s t l x
  sd : sideOk N s t side
  eq : sur l x s = cutOf l side
  least : ∀ side', sideOk N s t side' → cutOf l side' ≤ sur l x s → ∀ v : Int, 0 ≤ v → v < N → gb side v = true → gb side' v = true

def xOf (l : List S43) (much : List Int) : List Int := (List.range l.length).map fun k : Nat => gi much (2 * k + 1)
def sideOf (N : Int) (lev : List Int) : List Bool := (List.range N.toNat).map fun v : Nat => decide (0 ≤ gi lev v)
theorem gi_xOf {l : List S43} {much : List Int} {k : Nat} (hk : k < l.length) : gi (xOf l much) k = gi much (2 * k + 1) := by
  unfold xOf
  show List.getD _ (Int.toNat k) 0 = _
  rw [Int.toNat_natCast, List.getD_eq_getElem?_getD, List.getElem?_map, List.getElem?_range hk]
  rfl
theorem gb_sideOf {lev : List Int} {v : Int} (h0 : 0 ≤ v) (h1 : v < N) : gb (sideOf N lev) v = decide (0 ≤ gi lev v) := by
  unfold sideOf gb
  rw [List.getD_eq_getElem?_getD, List.getElem?_map, List.getElem?_range (by omega)]
  show decide (0 ≤ gi lev (v.toNat : Nat)) = _
  rw [show ((v.toNat : Nat) : Int) = v by omega]
theorem sur_xOf (much : List Int) (u : Int) : sur l (xOf l much) u = net l much u := by
  unfold sur surK net
  exact sumR_congr fun k hk => by rw [gi_xOf hk]

/-- What holds between two phases. -/
structure MI (N s t : Int) (l : List S43) (much : List Int) : Prop where
  inv : PInv l ⟨much, List.replicate 64 false⟩
  keep : ∀ u, u ≠ s → u ≠ t → net l much u = 0

theorem MI.caps {much : List Int} (h : MI N s t l much) : capsOk l (xOf l much) := fun k hk => by
  rw [gi_xOf hk]
  have h1 := h.inv.m0 (2 * k + 1) (by omega) (by omega)
  have h2 := h.inv.m0 (2 * k) (by omega) (by omega)
  have h3 := h.inv.cap k hk
  simp only at h1 h2 h3
  omega

theorem MI.flow {much : List Int} (h : MI N s t l much) : flowOk N s t l (xOf l much) :=
  ⟨by simp [xOf], h.caps, fun u _ hs ht => by rw [sur_xOf]; exact h.keep u hs ht⟩

theorem MI.bound {much : List Int} (hn : NetOk N s t l) (h : MI N s t l much) : net l much s ≤ 549755813888 := by
  have h1 := surK_bound (l := l) (x := xOf l much) (u := s) l.length (fun k hk => by
    obtain ⟨a, b⟩ := h.caps k hk
    have := (hn.arcs k hk).2.2.2.2
    exact ⟨a, by omega⟩)
  have h2 := sur_xOf (l := l) much s
  unfold sur at h2
  have := hn.len
  omega

theorem levs_net (hn : NetOk N s t l) (much : List Int) : LevOk l much (outK l l.length) N s (levs l much s) := by
  obtain ⟨s0, s1⟩ := inV_true.1 hn.arg.2.2.1
  refine levs_ok s0 s1 hn.arg.2.1 (fun u u0 u1 i hi => ?_)
  obtain ⟨i0, i1, _⟩ := mem_outK hi
  exact hn.head i i0 i1

def phase (l : List S43) (s t : Int) (much : List Int) : List Int := (push l (levs l much s) (outK l l.length) t 66 s 549755813888 ⟨much, List.replicate 64 false⟩).2.much

theorem gb_none (u : Int) : gb (List.replicate 64 false) u = false := by
  unfold gb
  rw [List.getD_eq_getElem?_getD, List.getElem?_replicate]
  split <;> rfl

theorem MI.phase {much : List Int} (hn : NetOk N s t l) (h : MI N s t l much) (hlev : 0 ≤ gi (levs l much s) t) : MI N s t l (phase l s t much) ∧ net l much s < net l (Ytipfpckjgfjehaa.phase l s t much) s := by
  obtain ⟨hN0, hN1, hs, ht, hst⟩ := hn.arg
  obtain ⟨s0, s1⟩ := inV_true.1 hs
  obtain ⟨t0, t1⟩ := inV_true.1 ht
  have hL := levs_net hn much
  unfold Ytipfpckjgfjehaa.phase
  generalize levs l much s = lev at hL hlev ⊢
  have hp := push_ok (N := N) hN1 hn.len hn.head hL.top t0 66 s 549755813888 ⟨much, List.replicate 64 false⟩ h.inv (by omega) s0 s1 (by rw [hL.src]; omega)
  generalize push l lev (outK l l.length) t 66 s 549755813888 ⟨much, List.replicate 64 false⟩ = r at hp ⊢
  have hk := hp.keep
  have hfl : ∀ u, net l r.2.much u = net l much u + r.1 * (ind s u - ind t u) := hk.flow
  refine ⟨⟨⟨hk.inv.ml, by simp, hk.inv.m0, hk.inv.cap⟩, fun u us ut => ?_⟩, ?_⟩
  · rw [hfl, ind_ne (Ne.symm us), ind_ne (Ne.symm ut), h.keep u us ut]; omega
  · rw [hfl, ind_self, ind_ne (Ne.symm hst)]
    have hs0 := hk.s0
    rcases Int.lt_or_le 0 r.1 with hpos | hle
    · omega
    · exfalso
      have hz : r.1 = 0 := by omega
      have hm : r.2.much = much := hk.zero hz
      have hd : gb r.2.dead s = true := hp.full (by omega)
      have hdc : DC l lev t r.2 := hk.dc (fun u _ hu => by rw [gb_none] at hu; cases hu)
      have key : ∀ (d : Nat) (v : Int), 0 ≤ v → v < 64 → gi lev v = d → gb r.2.dead v = true := by
        intro d
        induction d with
        | zero => intro v v0 v1 hv; rw [hL.zero v v0 v1 (by simpa using hv)]; exact hd
        | succ d ih =>
          intro v v0 v1 hv
          obtain ⟨u, i, u0, hu, hi, ho, htv⟩ := hL.pred v v0 (by omega)
          have hu64 : u < 64 := by
            rcases Int.lt_or_le u 64 with h | h
            · exact h
            · exfalso
              obtain ⟨_, _, e⟩ := mem_outK hi
              have := hn.head (opp i) (opp_range (mem_outK hi).1 (mem_outK hi).2.1).1 (opp_range (mem_outK hi).1 (mem_outK hi).2.1).2
              rw [e] at this; omega
          have := (hdc u u0 (ih u u0 hu64 (by omega))).2 i hi (by rw [hm]; exact ho) (by rw [htv]; omega)
          rwa [htv] at this
      obtain ⟨d, hd'⟩ : ∃ d : Nat, gi lev t = d := ⟨(gi lev t).toNat, by omega⟩
      have := key d t t0 (by omega) hd'
      exact (hdc t t0 this).1 rfl

theorem MI.final {much : List Int} (hn : NetOk N s t l) (h : MI N s t l much) (hlev : gi (levs l much s) t < 0) : MaxRes N s t l (xOf l much) (sideOf N (levs l much s)) := by
  obtain ⟨hN0, hN1, hs, ht, hst⟩ := hn.arg
  obtain ⟨s0, s1⟩ := inV_true.1 hs
  obtain ⟨t0, t1⟩ := inV_true.1 ht
  have hL := levs_net hn much
  generalize levs l much s = lev at hL hlev ⊢
  have hside : sideOk N s t (sideOf N lev) := ⟨by simp [sideOf]; omega, by rw [gb_sideOf s0 s1, hL.src]; rfl, by rw [gb_sideOf t0 t1]; exact decide_eq_false (by omega)⟩
  -- an arc's ends, its state
  have arc : ∀ k : Nat, k < l.length → gi (xOf l much) k = gi much (2 * k + 1) ∧ gi much (2 * k) + gi much (2 * k + 1) = (rd_T43 l k).f2 ∧ 0 ≤ gi much (2 * k) ∧ 0 ≤ gi much (2 * k + 1) := fun k hk =>
    ⟨gi_xOf hk, h.inv.cap k hk, h.inv.m0 _ (by omega) (by omega), h.inv.m0 _ (by omega) (by omega)⟩
  have ev : ∀ k : Nat, toV l (2 * k) = (rd_T43 l k).f1 ∧ toV l (opp (2 * k)) = (rd_T43 l k).f0 ∧ toV l (2 * k + 1) = (rd_T43 l k).f0 ∧ toV l (opp (2 * k + 1)) = (rd_T43 l k).f1 := fun k => by
    have o1 : opp (2 * (k : Int)) = 2 * k + 1 := by unfold opp; rw [if_pos (by omega)]
    have o2 : opp (2 * (k : Int) + 1) = 2 * k := by unfold opp; rw [if_neg (by omega)]; omega
    rw [o1, o2]
    unfold toV
    rw [if_pos (by omega), if_neg (by omega), show (2 * (k : Int)) / 2 = k by omega, show (2 * (k : Int) + 1) / 2 = k by omega]
    exact ⟨rfl, rfl, rfl, rfl⟩
  have heq : sur l (xOf l much) s = cutOf l (sideOf N lev) := by
    rw [flow_side hn h.flow.2.2 hside.2.1 hside.2.2, cutOf_eq]
    refine sumR_congr fun k hk => ?_
    obtain ⟨i0, i1, hne, _⟩ := hn.arcs k hk
    obtain ⟨a0, a1⟩ := inV_true.1 i0
    obtain ⟨b0, b1⟩ := inV_true.1 i1
    obtain ⟨e1, e2, e3, e4⟩ := arc k hk
    obtain ⟨v1, v2, v3, v4⟩ := ev k
    have m1 : (2 * (k : Int)) ∈ outK l l.length (rd_T43 l k).f0 := by rw [← v2]; exact outK_mem (by omega) (by omega)
    have m2 : (2 * (k : Int) + 1) ∈ outK l l.length (rd_T43 l k).f1 := by rw [← v4]; exact outK_mem (by omega) (by omega)
    have c1 := fun hr => hL.closed (rd_T43 l k).f0 a0 (by omega) hr _ m1
    have c2 := fun hr => hL.closed (rd_T43 l k).f1 b0 (by omega) hr _ m2
    rw [v1] at c1
    rw [v3] at c2
    unfold bi cutTerm
    rw [gb_sideOf a0 a1, gb_sideOf b0 b1, e1]
    by_cases p : 0 ≤ gi lev (rd_T43 l k).f0
    · by_cases q : 0 ≤ gi lev (rd_T43 l k).f1
      · simp [p, q]
      · have : ¬ 0 < gi much (2 * k) := fun ho => q (c1 p ho)
        simp [p, q]; omega
    · by_cases q : 0 ≤ gi lev (rd_T43 l k).f1
      · have : ¬ 0 < gi much (2 * k + 1) := fun ho => p (c2 q ho)
        simp [p, q]; omega
      · simp [p, q]
  refine ⟨h.flow, hside, heq, fun side' hs' hle => ?_⟩
  have key : ∀ (d : Nat) (v : Int), 0 ≤ v → v < 64 → gi lev v = d → gb side' v = true := by
    intro d
    induction d with
    | zero => intro v v0 v1 hv; rw [hL.zero v v0 v1 (by simpa using hv)]; exact hs'.2.1
    | succ d ih =>
      intro v v0 v1 hv
      obtain ⟨u, i, u0, hu, hi, ho, htv⟩ := hL.pred v v0 (by omega)
      obtain ⟨i0, i1, htu⟩ := mem_outK hi
      have hu64 : u < 64 := by
        have := hn.head (opp i) (opp_range i0 i1).1 (opp_range i0 i1).2
        rw [htu] at this; omega
      have hgu := ih u u0 hu64 (by omega)
      obtain ⟨k, hk⟩ : ∃ k : Nat, (k : Int) = i / 2 := ⟨(i / 2).toNat, by omega⟩
      have hkl : k < l.length := by omega
      obtain ⟨e1, e2, e3, e4⟩ := arc k hkl
      obtain ⟨v1', v2', v3', v4'⟩ := ev k
      have ht := tight hn h.flow hs' hle hkl
      unfold bi cutTerm at ht
      rw [e1] at ht
      rcases (show i = 2 * (k : Int) ∨ i = 2 * (k : Int) + 1 by omega) with e | e
      · subst e
        rw [v1'] at htv; rw [v2'] at htu
        rw [htv, htu, hgu] at ht
        cases hg : gb side' v with
        | true => rfl
        | false => rw [hg] at ht; simp at ht; omega
      · subst e
        rw [v3'] at htv; rw [v4'] at htu
        rw [htv, htu, hgu] at ht
        cases hg : gb side' v with
        | true => rfl
        | false => rw [hg] at ht; simp at ht; omega
  intro v v0 v1 hv
  rw [gb_sideOf v0 v1] at hv
  have hv := of_decide_eq_true hv
  exact key (gi lev v).toNat v v0 (by omega) (by omega)
end

/-- What arcs take at the start, of the first n. -/
def much0 (l : List S43) : Nat → List Int
  | 0 => List.replicate 1024 0
  | n + 1 => (much0 l n).set (2 * n) (rd_T43 l n).f2
theorem much0_length (l : List S43) : ∀ n, (much0 l n).length = 1024
  | 0 => List.length_replicate
  | n + 1 => by show ((much0 l n).set _ _).length = 1024; rw [List.length_set]; exact much0_length l n
theorem much0_odd (l : List S43) : ∀ (n : Nat) (k : Nat), gi (much0 l n) (2 * k + 1) = 0
  | 0, k => by
    unfold much0 gi
    rw [List.getD_eq_getElem?_getD, List.getElem?_replicate]
    split <;> rfl
  | n + 1, k => by
    have := much0_odd l n k
    show gi ((much0 l n).set (2 * n) _) _ = 0
    rw [show 2 * n = (2 * (n : Int)).toNat by omega, gi_set_ne (by omega)]; exact this
theorem much0_even (l : List S43) : ∀ (n : Nat) (k : Nat), n ≤ 512 → gi (much0 l n) (2 * k) = if k < n then (rd_T43 l k).f2 else 0
  | 0, k, _ => by
    unfold much0 gi
    rw [List.getD_eq_getElem?_getD, List.getElem?_replicate, if_neg (show ¬ k < 0 by omega)]
    split <;> rfl
  | n + 1, k, h => by
    have ih := much0_even l n k (by omega)
    show gi ((much0 l n).set (2 * n) _) _ = _
    by_cases e : k = n
    · subst e
      rw [show 2 * k = (2 * (k : Int)).toNat by omega, gi_set_same (by omega) (by rw [much0_length]; omega), if_pos (by omega)]
    · rw [show 2 * n = (2 * (n : Int)).toNat by omega, gi_set_ne (by omega), ih]
      by_cases h2 : k < n
      · rw [if_pos h2, if_pos (by omega)]
      · rw [if_neg h2, if_neg (by omega)]
theorem MI.start {N s t : Int} {l : List S43} (hn : NetOk N s t l) : MI N s t l (much0 l l.length) := by
  have hlen := hn.len
  refine ⟨⟨much0_length l _, by simp, fun j j0 j1 => ?_, fun k hk => ?_⟩, fun u _ _ => ?_⟩
  · obtain ⟨k, hk⟩ : ∃ k : Nat, (k : Int) = j / 2 := ⟨(j / 2).toNat, by omega⟩
    rcases (show j = 2 * (k : Int) ∨ j = 2 * (k : Int) + 1 by omega) with e | e
    · show 0 ≤ gi (much0 l l.length) j
      rw [e, much0_even l _ k hlen, if_pos (by omega)]; exact (hn.arcs k (by omega)).2.2.2.1
    · show 0 ≤ gi (much0 l l.length) j
      rw [e, much0_odd]; omega
  · show gi (much0 l l.length) _ + gi (much0 l l.length) _ = _
    rw [much0_even l _ k hlen, if_pos hk, much0_odd, Int.add_zero]
  · unfold net
    exact sumR_zero fun k _ => by rw [much0_odd]; omega
end Go.Proofs.Ytipfpckjgfjehaa

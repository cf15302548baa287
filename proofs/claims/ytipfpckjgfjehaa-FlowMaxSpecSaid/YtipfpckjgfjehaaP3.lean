/-
  The plain side of flow.Max: what a push does. No program in sight.
-/
import Derived.Test.YtipfpckjgfjehaaP2
namespace Go.Proofs.Ytipfpckjgfjehaa
set_option linter.unusedVariables false
set_option linter.unusedSimpArgs false
open PFlowMaxSpec

/-- What arcs still take, and the vertices from which nothing more goes. -/
structure PS where
  much : List Int
  dead : List Bool

/-- One arc of those that leave v: how much has been sent, the state, whether v is done. -/
def pushArc (rec : Int → Int → PS → Int × PS) (l : List S43) (lev : List Int) (v most : Int) (a : Int × PS × Bool) (i : Int) : Int × PS × Bool :=
  if a.2.2 = true then a
  else if gi a.2.1.much i ≤ 0 then a
  else if gi lev (toV l i) ≠ gi lev v + 1 ∨ gb a.2.1.dead (toV l i) = true then a
  else
    let r := rec (toV l i) (min (most - a.1) (gi a.2.1.much i)) a.2.1
    (a.1 + r.1, ⟨(r.2.much.set i.toNat (gi r.2.much i - r.1)).set (opp i).toNat (gi (r.2.much.set i.toNat (gi r.2.much i - r.1)) (opp i) + r.1), r.2.dead⟩, decide (a.1 + r.1 = most))
def push (l : List S43) (lev : List Int) (out : Int → List Int) (t : Int) : Nat → Int → Int → PS → Int × PS
  | 0, _, _, st => (0, st)
  | n + 1, v, most, st =>
    if v = t then (most, st)
    else
      let r := (out v).foldl (pushArc (push l lev out t n) l lev v most) (0, st, false)
      if r.2.2 = true then (r.1, r.2.1) else (r.1, ⟨r.2.1.much, r.2.1.dead.set v.toNat true⟩)

section
variable (l : List S43) (lev : List Int) (N t : Int)
/-- What always holds of what arcs still take. -/
structure PInv (st : PS) : Prop where
  ml : st.much.length = 1024
  dl : st.dead.length = 64
  m0 : ∀ j : Int, 0 ≤ j → j < 2 * l.length → 0 ≤ gi st.much j
  cap : ∀ k : Nat, k < l.length → gi st.much (2 * k) + gi st.much (2 * k + 1) = (rd_T43 l k).f2
/-- From a dead vertex nothing goes on to one that lives. -/
def DC (st : PS) : Prop := ∀ u : Int, 0 ≤ u → gb st.dead u = true → u ≠ t ∧ ∀ i, i ∈ outK l l.length u → 0 < gi st.much i → gi lev (toV l i) = gi lev u + 1 → gb st.dead (toV l i) = true
/-- What a push from v, and each part of it, keeps. -/
structure PKeep (v : Int) (st : PS) (sent : Int) (st' : PS) : Prop where
  inv : PInv l st'
  s0 : 0 ≤ sent
  frame : ∀ j : Int, 0 ≤ j → j < 2 * l.length → (gi lev (toV l j) < gi lev v ∨ gi lev (toV l (opp j)) < gi lev v) → gi st'.much j = gi st.much j
  flow : ∀ u, net l st'.much u = net l st.much u + sent * (ind v u - ind t u)
  mono : ∀ j : Int, 0 ≤ j → j < 2 * l.length → gi lev (toV l j) = gi lev (toV l (opp j)) + 1 → gi st'.much j ≤ gi st.much j
  dmono : ∀ u, gb st.dead u = true → gb st'.dead u = true
  dc : DC l lev t st → DC l lev t st'
  zero : sent = 0 → st'.much = st.much
structure POk (v most : Int) (st : PS) (r : Int × PS) : Prop where
  keep : PKeep l lev t v st r.1 r.2
  s1 : r.1 ≤ most
  full : r.1 < most → gb r.2.dead v = true

structure FOk (v most : Int) (st : PS) (xs : List Int) (a : Int × PS × Bool) : Prop where
  keep : PKeep l lev t v st a.1 a.2.1
  s1 : a.1 ≤ most
  done : a.2.2 = true → a.1 = most
  more : a.2.2 = false → a.1 < most
  seen : a.2.2 = false → ∀ i ∈ xs, 0 < gi a.2.1.much i → gi lev (toV l i) = gi lev v + 1 → gb a.2.1.dead (toV l i) = true
end

section
variable {l : List S43} {lev : List Int} {N t : Int}
theorem PKeep.refl {v : Int} {st : PS} (h : PInv l st) : PKeep l lev t v st 0 st :=
  ⟨h, Int.le_refl _, fun _ _ _ _ => rfl, fun u => by simp, fun _ _ _ _ => Int.le_refl _, fun _ h => h, fun h => h, fun _ => rfl⟩

theorem foldl_rev {α β : Type} (f : β → α → β) (P : List α → β → Prop) (b : β) (h0 : P [] b) : ∀ (xs : List α), (∀ ys x zs b, xs = ys ++ x :: zs → P ys b → P (ys ++ [x]) (f b x)) → P xs (xs.foldl f b) := by
  intro xs
  have key : ∀ (zs ys : List α) (b : β), P ys b → (∀ ys' x zs' b, ys ++ zs = ys' ++ x :: zs' → P ys' b → P (ys' ++ [x]) (f b x)) → P (ys ++ zs) (zs.foldl f b) := by
    intro zs
    induction zs with
    | nil => intro ys b hb _; simpa using hb
    | cons z zs ih =>
      intro ys b hb hs
      have := ih (ys ++ [z]) (f b z) (hs ys z zs b rfl hb) (fun ys' x zs' b e => hs ys' x zs' b (by simpa using e))
      simpa using this
  intro h
  simpa using key xs [] b h0 (by simpa using h)

theorem pushArc_ok {rec : Int → Int → PS → Int × PS} {v most : Int} {st : PS} {xs : List Int} {a : Int × PS × Bool} {i : Int} (hN : N ≤ 64) (hv0 : 0 ≤ v) (hvt : v ≠ t) (hi : i ∈ outK l l.length v) (hxs : ∀ j ∈ xs, j ∈ outK l l.length v) (hl : l.length ≤ 512)
    (hh : 0 ≤ toV l i ∧ toV l i < N)
    (hrec : ∀ m st', PInv l st' → 0 < m → gi lev (toV l i) = gi lev v + 1 → POk l lev t (toV l i) m st' (rec (toV l i) m st')) (h : FOk l lev t v most st xs a) :
    FOk l lev t v most st (xs ++ [i]) (pushArc rec l lev v most a i) := by
  obtain ⟨hi0, hi1, hti⟩ := mem_outK hi
  unfold pushArc
  split
  · rename_i hd
    exact ⟨h.keep, h.s1, h.done, h.more, fun hd' => by rw [hd] at hd'; cases hd'⟩
  · rename_i hd
    have hd' : a.2.2 = false := by simpa using hd
    split
    · rename_i hm
      exact ⟨h.keep, h.s1, h.done, h.more, fun hd' j hj hpos hlev => (List.mem_append.1 hj).elim (fun hj => h.seen hd' j hj hpos hlev) (fun hj => by rw [List.mem_singleton] at hj; subst hj; omega)⟩
    · rename_i hm
      split
      · rename_i hs
        refine ⟨h.keep, h.s1, h.done, h.more, fun hd' j hj hpos hlev => (List.mem_append.1 hj).elim (fun hj => h.seen hd' j hj hpos hlev) (fun hj => ?_)⟩
        rw [List.mem_singleton] at hj; subst hj
        exact hs.elim (fun hne => absurd hlev hne) (fun h => h)
      · rename_i hs
        have hlv : gi lev (toV l i) = gi lev v + 1 := Classical.byContradiction fun hne => hs (.inl hne)
        have hnd : gb a.2.1.dead (toV l i) = false := by
          cases hb : gb a.2.1.dead (toV l i) with
          | false => rfl
          | true => exact absurd (.inr hb) hs
        have hmore := h.more hd'
        have hpos : 0 < min (most - a.1) (gi a.2.1.much i) := by rw [Int.lt_min]; omega
        have hr := hrec (min (most - a.1) (gi a.2.1.much i)) a.2.1 h.keep.inv hpos hlv
        generalize rec (toV l i) (min (most - a.1) (gi a.2.1.much i)) a.2.1 = r at hr
        have hmin1 : min (most - a.1) (gi a.2.1.much i) ≤ most - a.1 := Int.min_le_left _ _
        have hmin2 : min (most - a.1) (gi a.2.1.much i) ≤ gi a.2.1.much i := Int.min_le_right _ _
        have hr1 := hr.s1
        have hr0 := hr.keep.s0
        have hml := hr.keep.inv.ml
        obtain ⟨ho0, ho1⟩ := opp_range hi0 hi1
        have hne : i ≠ opp i := by unfold opp; split <;> omega
        -- the arc itself has not been touched by the inner push
        have hfi : gi r.2.much i = gi a.2.1.much i := hr.keep.frame i hi0 hi1 (.inr (by rw [hti]; omega))
        have hfo : gi r.2.much (opp i) = gi a.2.1.much (opp i) := hr.keep.frame (opp i) ho0 ho1 (.inl (by rw [hti]; omega))
        have e1 : gi (r.2.much.set i.toNat (gi r.2.much i - r.1)) (opp i) = gi r.2.much (opp i) := gi_set_other hi0 ho0 hne
        simp only [e1]
        have hlen : ((r.2.much.set i.toNat (gi r.2.much i - r.1)).set (opp i).toNat (gi r.2.much (opp i) + r.1)).length = 1024 := by simp [hml]
        -- what the arcs hold behind it
        have hat : gi ((r.2.much.set i.toNat (gi r.2.much i - r.1)).set (opp i).toNat (gi r.2.much (opp i) + r.1)) i = gi r.2.much i - r.1 := by
          rw [gi_set_other ho0 hi0 (Ne.symm hne), gi_set_same hi0 (by omega)]
        have hato : gi ((r.2.much.set i.toNat (gi r.2.much i - r.1)).set (opp i).toNat (gi r.2.much (opp i) + r.1)) (opp i) = gi r.2.much (opp i) + r.1 := gi_set_same ho0 (by simp; omega)
        have hoth : ∀ j : Int, 0 ≤ j → j ≠ i → j ≠ opp i → gi ((r.2.much.set i.toNat (gi r.2.much i - r.1)).set (opp i).toNat (gi r.2.much (opp i) + r.1)) j = gi r.2.much j := fun j hj h1 h2 => by
          rw [gi_set_other ho0 hj (Ne.symm h2), gi_set_other hi0 hj (Ne.symm h1)]
        have hnet := fun u => net_push (l := l) (much := r.2.much) (i := i) (d := r.1) (u := u) (by omega) hi0 hi1
        generalize ((r.2.much.set i.toNat (gi r.2.much i - r.1)).set (opp i).toNat (gi r.2.much (opp i) + r.1)) = m2 at hlen hat hato hoth hnet
        have hm0 : ∀ j : Int, 0 ≤ j → j < 2 * l.length → 0 ≤ gi m2 j := fun j hj hj2 => by
          have := hr.keep.inv.m0 j hj hj2
          by_cases h1 : j = i
          · subst h1; rw [hat]; omega
          · by_cases h2 : j = opp i
            · subst h2; rw [hato]; omega
            · rw [hoth j hj h1 h2]; exact this
        have hcap : ∀ k : Nat, k < l.length → gi m2 (2 * k) + gi m2 (2 * k + 1) = (rd_T43 l k).f2 := fun k hk => by
          have := hr.keep.inv.cap k hk
          by_cases hp : i % 2 = 0
          · have ho : opp i = i + 1 := by unfold opp; rw [if_pos hp]
            by_cases h1 : 2 * (k : Int) = i
            · rw [show 2 * (k : Int) + 1 = opp i by omega, h1, hat, hato]
              rw [show 2 * (k : Int) + 1 = opp i by omega, h1] at this
              omega
            · rw [hoth _ (by omega) h1 (by omega), hoth _ (by omega) (by omega) (by omega)]; exact this
          · have ho : opp i = i - 1 := by unfold opp; rw [if_neg hp]
            by_cases h1 : 2 * (k : Int) + 1 = i
            · rw [h1, show 2 * (k : Int) = opp i by omega, hat, hato]
              rw [h1, show 2 * (k : Int) = opp i by omega] at this
              omega
            · rw [hoth _ (by omega) (by omega) (by omega), hoth _ (by omega) h1 (by omega)]; exact this
        have hinv : PInv l ⟨m2, r.2.dead⟩ := ⟨hlen, hr.keep.inv.dl, hm0, hcap⟩
        -- the level arcs have not grown
        have hmono : ∀ j : Int, 0 ≤ j → j < 2 * l.length → gi lev (toV l j) = gi lev (toV l (opp j)) + 1 → gi m2 j ≤ gi r.2.much j := fun j hj hj2 hjl => by
          by_cases h1 : j = i
          · subst h1; rw [hat]; omega
          · by_cases h2 : j = opp i
            · exfalso; subst h2; rw [hti, opp_opp] at hjl; omega
            · rw [hoth j hj h1 h2]; exact Int.le_refl _
        have hdc : DC l lev t r.2 → DC l lev t ⟨m2, r.2.dead⟩ := fun hdc u hu hud => by
          obtain ⟨h1, h2⟩ := hdc u hu hud
          refine ⟨h1, fun j hj hjp hjl => h2 j hj ?_ hjl⟩
          obtain ⟨hj0, hj1, htj⟩ := mem_outK hj
          have := hmono j hj0 hj1 (by rw [htj]; exact hjl)
          have : 0 < gi m2 j := hjp
          omega
        refine ⟨⟨hinv, ?_, ?_, ?_, ?_, ?_, ?_, ?_⟩, ?_, ?_, ?_, ?_⟩
        · have := h.keep.s0; show 0 ≤ a.1 + r.1; omega
        · intro j hj hj2 hjl
          have hk := h.keep.frame j hj hj2 hjl
          have h1 : j ≠ i := by rintro rfl; rw [hti] at hjl; omega
          have h2 : j ≠ opp i := by rintro rfl; rw [hti, opp_opp] at hjl; omega
          rw [show gi (PS.much ⟨m2, r.2.dead⟩) j = gi m2 j from rfl, hoth j hj h1 h2, hr.keep.frame j hj hj2 (by omega), hk]
        · intro u
          rw [show net l (PS.much ⟨m2, r.2.dead⟩) u = net l m2 u from rfl]
          have h1 := h.keep.flow u
          have h2 := hr.keep.flow u
          have h3 := hnet u
          rw [hti] at h3
          have e2 : r.1 * (ind (toV l i) u - ind t u) + r.1 * (ind v u - ind (toV l i) u) = r.1 * (ind v u - ind t u) := by
            rw [← Int.mul_add]; congr 1; omega
          rw [h3, h2, h1, Int.add_mul]
          omega
        · intro j hj hj2 hjl
          have h1 := hmono j hj hj2 hjl
          have h2 := hr.keep.mono j hj hj2 hjl
          have h3 := h.keep.mono j hj hj2 hjl
          show gi m2 j ≤ _
          omega
        · exact fun u hu => hr.keep.dmono u (h.keep.dmono u hu)
        · exact fun hd => hdc (hr.keep.dc (h.keep.dc hd))
        · intro hz
          have hs0 := h.keep.s0
          have hz' : a.1 + r.1 = 0 := hz
          have z1 : a.1 = 0 := by omega
          have z2 : r.1 = 0 := by omega
          rw [← h.keep.zero z1, ← hr.keep.zero z2]
          show m2 = r.2.much
          apply List.ext_getElem?
          intro j
          by_cases hj : j < 1024
          · have hg : gi m2 (j : Int) = gi r.2.much (j : Int) := by
              by_cases h1 : (j : Int) = i
              · rw [h1, hat]; omega
              · by_cases h2 : (j : Int) = opp i
                · rw [h2, hato]; omega
                · exact hoth _ (by omega) h1 h2
            unfold gi at hg
            rw [Int.toNat_natCast, List.getD_eq_getElem?_getD, List.getD_eq_getElem?_getD, List.getElem?_eq_getElem (by omega), List.getElem?_eq_getElem (by omega)] at hg
            rw [List.getElem?_eq_getElem (by omega), List.getElem?_eq_getElem (by omega)]
            exact congrArg some hg
          · rw [List.getElem?_eq_none (by omega), List.getElem?_eq_none (by omega)]
        · show a.1 + r.1 ≤ most; omega
        · intro hd; exact of_decide_eq_true hd
        · intro hd
          have : ¬ a.1 + r.1 = most := of_decide_eq_false hd
          show a.1 + r.1 < most
          omega
        · intro hd j hj hjp hjl
          have hnm : ¬ a.1 + r.1 = most := of_decide_eq_false hd
          have hjp' : 0 < gi m2 j := hjp
          rcases List.mem_append.1 hj with hj | hj
          · -- an earlier arc
            obtain ⟨hj0, hj1, htj⟩ := mem_outK (hxs j hj)
            have h1 := hmono j hj0 hj1 (by rw [htj]; exact hjl)
            have h2 := hr.keep.mono j hj0 hj1 (by rw [htj]; exact hjl)
            exact hr.keep.dmono _ (h.seen hd' j hj (by omega) hjl)
          · rw [List.mem_singleton] at hj; subst hj
            refine hr.full ?_
            rw [hat] at hjp'
            rcases Int.lt_or_le r.1 (min (most - a.1) (gi a.2.1.much j)) with hlt | hge
            · exact hlt
            · exfalso
              rcases Int.min_def (most - a.1) (gi a.2.1.much j) with hm'
              rw [hm'] at hge
              split at hge <;> omega

theorem push_ok (hN : N ≤ 64) (hl : l.length ≤ 512) (hh : ∀ i : Int, 0 ≤ i → i < 2 * l.length → 0 ≤ toV l i ∧ toV l i < N) (hlev : ∀ u : Int, gi lev u ≤ 65) (ht : 0 ≤ t) :
    ∀ (n : Nat) (v most : Int) (st : PS), PInv l st → 0 < most → 0 ≤ v → v < N → 66 ≤ gi lev v + n → POk l lev t v most st (push l lev (outK l l.length) t n v most st) := by
  intro n
  induction n with
  | zero => intro v most st _ _ _ _ h; have := hlev v; omega
  | succ n ih =>
    intro v most st hinv hm hv0 hvN hn
    unfold push
    by_cases hvt : v = t
    · rw [if_pos hvt]
      subst hvt
      refine ⟨⟨hinv, by show 0 ≤ most; omega, fun _ _ _ _ => rfl, fun u => ?_, fun _ _ _ _ => Int.le_refl _, fun _ h => h, fun h => h, fun h => ?_⟩, Int.le_refl _, fun h => ?_⟩
      · simp
      · have h : most = 0 := h
        omega
      · have h : most < most := h
        omega
    · rw [if_neg hvt]
      have hF : FOk l lev t v most st (outK l l.length v) ((outK l l.length v).foldl (pushArc (push l lev (outK l l.length) t n) l lev v most) (0, st, false)) := by
        refine foldl_rev _ (fun ys a => FOk l lev t v most st ys a) _ ⟨PKeep.refl hinv, by show (0 : Int) ≤ most; omega, (fun h => by cases h), fun _ => hm, (fun _ i hi => by simp at hi)⟩ _ ?_
        intro ys x zs a he ha
        have hx : x ∈ outK l l.length v := by rw [he]; simp
        obtain ⟨hx0, hx1, _⟩ := mem_outK hx
        have hhx := hh x hx0 hx1
        exact pushArc_ok hN hv0 hvt hx (fun j hj => by rw [he]; simp [hj]) hl hhx (fun m st' hi' hm' hl' => ih _ _ _ hi' hm' hhx.1 hhx.2 (by omega)) ha
      generalize (outK l l.length v).foldl (pushArc (push l lev (outK l l.length) t n) l lev v most) (0, st, false) = a at hF
      by_cases hd : a.2.2 = true
      · rw [if_pos hd]
        exact ⟨hF.keep, hF.s1, fun h => by have := hF.done hd; have h : a.1 < most := h; omega⟩
      · rw [if_neg hd]
        have hd' : a.2.2 = false := by simpa using hd
        have hk := hF.keep
        refine ⟨⟨⟨hk.inv.ml, by simp [hk.inv.dl], hk.inv.m0, hk.inv.cap⟩, hk.s0, hk.frame, hk.flow, hk.mono, fun u hu => gb_set_true (hk.dmono u hu), fun hdc => ?_, hk.zero⟩, hF.s1, fun _ => gb_set_same hv0 (by rw [hk.inv.dl]; omega)⟩
        intro u hu hud
        have hdc' := hk.dc hdc
        rcases gb_set_inv hv0 hu hud with rfl | hold
        · exact ⟨hvt, fun i hi hip hil => gb_set_true (hF.seen hd' i hi hip hil)⟩
        · obtain ⟨h1, h2⟩ := hdc' u hu hold
          exact ⟨h1, fun i hi hip hil => gb_set_true (h2 i hi hip hil)⟩

/-- The state of a push when so many of v's arcs have been seen. -/
def pushTake (l : List S43) (lev : List Int) (out : Int → List Int) (t : Int) (n : Nat) (v most : Int) (st : PS) (k : Nat) : Int × PS × Bool :=
  ((out v).take k).foldl (pushArc (push l lev out t n) l lev v most) (0, st, false)
theorem pushTake_zero (l : List S43) (lev : List Int) (out : Int → List Int) (t : Int) (n : Nat) (v most : Int) (st : PS) : pushTake l lev out t n v most st 0 = (0, st, false) := rfl
theorem pushTake_succ {l : List S43} {lev : List Int} {out : Int → List Int} {t : Int} {n : Nat} {v most : Int} {st : PS} {k : Nat} (hk : k < (out v).length) :
    pushTake l lev out t n v most st (k + 1) = pushArc (push l lev out t n) l lev v most (pushTake l lev out t n v most st k) ((out v).getD k 0) := by
  unfold pushTake
  rw [List.take_succ_eq_append_getElem hk, List.foldl_append]
  simp [List.getD_eq_getElem?_getD, List.getElem?_eq_getElem hk]
theorem pushArc_done {rec : Int → Int → PS → Int × PS} {l : List S43} {lev : List Int} {v most : Int} {a : Int × PS × Bool} (h : a.2.2 = true) : ∀ xs : List Int, xs.foldl (pushArc rec l lev v most) a = a
  | [] => rfl
  | x :: xs => by
    rw [List.foldl_cons, show pushArc rec l lev v most a x = a by unfold pushArc; rw [if_pos h]]
    exact pushArc_done h xs
theorem pushTake_done {l : List S43} {lev : List Int} {out : Int → List Int} {t : Int} {n : Nat} {v most : Int} {st : PS} {k : Nat} (h : (pushTake l lev out t n v most st k).2.2 = true) :
    pushTake l lev out t n v most st (out v).length = pushTake l lev out t n v most st k := by
  unfold pushTake at *
  conv => lhs; rw [List.take_length, ← List.take_append_drop k (out v)]
  rw [List.foldl_append, pushArc_done h]
theorem push_take (l : List S43) (lev : List Int) (out : Int → List Int) (t : Int) (n : Nat) (v most : Int) (st : PS) (hvt : v ≠ t) :
    push l lev out t (n + 1) v most st = (if (pushTake l lev out t n v most st (out v).length).2.2 = true then ((pushTake l lev out t n v most st (out v).length).1, (pushTake l lev out t n v most st (out v).length).2.1)
      else ((pushTake l lev out t n v most st (out v).length).1, ⟨(pushTake l lev out t n v most st (out v).length).2.1.much, (pushTake l lev out t n v most st (out v).length).2.1.dead.set v.toNat true⟩)) := by
  unfold pushTake
  rw [push, if_neg hvt, List.take_length]
theorem pushTake_ok (hN : N ≤ 64) (hl : l.length ≤ 512) (hh : ∀ i : Int, 0 ≤ i → i < 2 * l.length → 0 ≤ toV l i ∧ toV l i < N) (hlev : ∀ u : Int, gi lev u ≤ 65) (ht : 0 ≤ t)
    {n : Nat} {v most : Int} {st : PS} (hinv : PInv l st) (hm : 0 < most) (hv0 : 0 ≤ v) (hvt : v ≠ t) (hn : 66 ≤ gi lev v + (n + 1 : Nat)) (k : Nat) :
    FOk l lev t v most st ((outK l l.length v).take k) (pushTake l lev (outK l l.length) t n v most st k) := by
  unfold pushTake
  refine foldl_rev _ (fun ys a => FOk l lev t v most st ys a) _ ⟨PKeep.refl hinv, by show (0 : Int) ≤ most; omega, (fun h => by cases h), fun _ => hm, (fun _ i hi => by simp at hi)⟩ _ ?_
  intro ys x zs a he ha
  have hmem : ∀ y, y ∈ (outK l l.length v).take k → y ∈ outK l l.length v := fun y hy => List.mem_of_mem_take hy
  have hx : x ∈ outK l l.length v := hmem x (by rw [he]; simp)
  obtain ⟨hx0, hx1, _⟩ := mem_outK hx
  have hhx := hh x hx0 hx1
  exact pushArc_ok hN hv0 hvt hx (fun j hj => hmem j (by rw [he]; simp [hj])) hl hhx (fun m st' hi' hm' hl' => push_ok hN hl hh hlev ht _ _ _ _ hi' hm' hhx.1 hhx.2 (by omega)) ha
end
end Go.Proofs.Ytipfpckjgfjehaa
